/- Walked code of the program, its pure functions and their contracts. -/
import Derived.Test.YteijfoldbinghaaSlGw
set_option linter.unusedVariables false
set_option linter.unusedSimpArgs false
namespace Go.Sl
open Go.Proofs Go.Proofs.Try
structure history_Line where
  Time : Int
  Kind : Int
  In : api_Wide
  Out : api_Wide
  deriving DecidableEq
def history_Line.cs (x : history_Line) : List Value := [N x.Time, N x.Kind, U x.In.a0, U x.In.a1, U x.In.a2, U x.In.a3, U x.Out.a0, U x.Out.a1, U x.Out.a2, U x.Out.a3]
def history_Line.z : history_Line := ⟨0, 0, api_Wide.z, api_Wide.z⟩
structure history_teller where
  side : Int
  account : Int
  asset : Int
  line : history_Line
  deriving DecidableEq
def history_teller.cs (x : history_teller) : List Value := [N x.side, N x.account, N x.asset, N x.line.Time, N x.line.Kind, U x.line.In.a0, U x.line.In.a1, U x.line.In.a2, U x.line.In.a3, U x.line.Out.a0, U x.line.Out.a1, U x.line.Out.a2, U x.line.Out.a3]
def history_teller.z : history_teller := ⟨0, 0, 0, history_Line.z⟩
structure api_Inv where
  User : Int
  Root : ByteArray
  Router : Int
  Send : Int
  Recv : Int
  To : Int
  Id : ByteArray
  deriving DecidableEq
def api_Inv.cs (x : api_Inv) : List Value := [N x.User, .string x.Root, N x.Router, N x.Send, N x.Recv, N x.To, .string x.Id]
def api_Inv.z : api_Inv := ⟨0, ⟨#[]⟩, 0, 0, 0, 0, ⟨#[]⟩⟩
structure api_Var where
  Amount : api_Wide
  Expiry : Int
  deriving DecidableEq
def api_Var.cs (x : api_Var) : List Value := [U x.Amount.a0, U x.Amount.a1, U x.Amount.a2, U x.Amount.a3, N x.Expiry]
def api_Var.z : api_Var := ⟨api_Wide.z, 0⟩
structure api_Tx where
  From : Int
  Nonce : Int
  Kind : Int
  Asset : Int
  Amount : api_Wide
  Inv : api_Inv
  Var : api_Var
  Fee : api_Wide
  Sig : ByteArray
  deriving DecidableEq
def api_Tx.cs (x : api_Tx) : List Value := [N x.From, N x.Nonce, N x.Kind, N x.Asset, U x.Amount.a0, U x.Amount.a1, U x.Amount.a2, U x.Amount.a3, N x.Inv.User, .string x.Inv.Root, N x.Inv.Router, N x.Inv.Send, N x.Inv.Recv, N x.Inv.To, .string x.Inv.Id, U x.Var.Amount.a0, U x.Var.Amount.a1, U x.Var.Amount.a2, U x.Var.Amount.a3, N x.Var.Expiry, U x.Fee.a0, U x.Fee.a1, U x.Fee.a2, U x.Fee.a3, .string x.Sig]
def api_Tx.z : api_Tx := ⟨0, 0, 0, 0, api_Wide.z, api_Inv.z, api_Var.z, api_Wide.z, ⟨#[]⟩⟩
structure api_Event where
  Time : Int
  Code : Int
  Tx : api_Tx
  deriving DecidableEq
def api_Event.cs (x : api_Event) : List Value := [N x.Time, N x.Code, N x.Tx.From, N x.Tx.Nonce, N x.Tx.Kind, N x.Tx.Asset, U x.Tx.Amount.a0, U x.Tx.Amount.a1, U x.Tx.Amount.a2, U x.Tx.Amount.a3, N x.Tx.Inv.User, .string x.Tx.Inv.Root, N x.Tx.Inv.Router, N x.Tx.Inv.Send, N x.Tx.Inv.Recv, N x.Tx.Inv.To, .string x.Tx.Inv.Id, U x.Tx.Var.Amount.a0, U x.Tx.Var.Amount.a1, U x.Tx.Var.Amount.a2, U x.Tx.Var.Amount.a3, N x.Tx.Var.Expiry, U x.Tx.Fee.a0, U x.Tx.Fee.a1, U x.Tx.Fee.a2, U x.Tx.Fee.a3, .string x.Tx.Sig]
def api_Event.z : api_Event := ⟨0, 0, api_Tx.z⟩
theorem fa_32_0 : FaV Try.prog 32 0 0 := .mk runUnderlying32 rfl sizeOf3 rfl rfl
theorem fa_32_3 : FaV Try.prog 32 3 3 := .mk runUnderlying32 rfl sizeOf3 rfl rfl
theorem fa_32_4 : FaV Try.prog 32 4 4 := .mk runUnderlying32 rfl sizeOf3 rfl rfl
theorem fa_32_5 : FaV Try.prog 32 5 5 := .mk runUnderlying32 rfl sizeOf3 rfl rfl
theorem fa_34_0 : FaV Try.prog 34 0 0 := .mk runUnderlying34 rfl sizeOf27 rfl rfl
theorem fa_36_0 : FaV Try.prog 36 0 0 := .mk runUnderlying36 rfl sizeOf3 rfl rfl
theorem fa_36_2 : FaV Try.prog 36 2 2 := .mk runUnderlying36 rfl sizeOf3 rfl rfl
theorem fa_36_3 : FaV Try.prog 36 3 3 := .mk runUnderlying36 rfl sizeOf3 rfl rfl
theorem fa_36_4 : FaV Try.prog 36 4 4 := .mk runUnderlying36 rfl sizeOf27 rfl rfl
theorem fa_36_5 : FaV Try.prog 36 5 8 := .mk runUnderlying36 rfl sizeOf32 rfl rfl
theorem fa_36_6 : FaV Try.prog 36 6 15 := .mk runUnderlying36 rfl sizeOf34 rfl rfl
theorem fa_36_7 : FaV Try.prog 36 7 20 := .mk runUnderlying36 rfl sizeOf27 rfl rfl
theorem fa_38_0 : FaV Try.prog 38 0 0 := .mk runUnderlying38 rfl sizeOf3 rfl rfl
theorem fa_38_1 : FaV Try.prog 38 1 1 := .mk runUnderlying38 rfl sizeOf30 rfl rfl
theorem fa_38_2 : FaV Try.prog 38 2 2 := .mk runUnderlying38 rfl sizeOf36 rfl rfl
theorem fa_40_2 : FaV Try.prog 40 2 2 := .mk runUnderlying40 rfl sizeOf27 rfl rfl
theorem fa_40_3 : FaV Try.prog 40 3 6 := .mk runUnderlying40 rfl sizeOf27 rfl rfl
theorem fa_120_0 : FaV Try.prog 120 0 0 := .mk runUnderlying120 rfl sizeOf3 rfl rfl
theorem fa_120_1 : FaV Try.prog 120 1 1 := .mk runUnderlying120 rfl sizeOf3 rfl rfl
theorem fa_120_2 : FaV Try.prog 120 2 2 := .mk runUnderlying120 rfl sizeOf3 rfl rfl
theorem fa_120_3 : FaV Try.prog 120 3 3 := .mk runUnderlying120 rfl sizeOf40 rfl rfl
theorem pl_40 : ∀ w, ((#[{ name := "Time", type := 3, offset := 0, embedded := false, tag := "", pkgPath := "", byteOffset := 0 }, { name := "Kind", type := 3, offset := 1, embedded := false, tag := "", pkgPath := "", byteOffset := 8 }, { name := "In", type := 27, offset := 2, embedded := false, tag := "", pkgPath := "", byteOffset := 16 }, { name := "Out", type := 27, offset := 6, embedded := false, tag := "", pkgPath := "", byteOffset := 48 }] : Array Field).mapM fun f => do pure (f.offset, ← sizeOf f.type) : Sem (Array (Nat × Nat))).run Try.prog w = .ok #[(0, 1), (1, 1), (2, 4), (6, 4)] w := fun w => by simp [sizeOf3, sizeOf27]
theorem pl_120 : ∀ w, ((#[{ name := "side", type := 3, offset := 0, embedded := false, tag := "", pkgPath := "narrows/history", byteOffset := 0 }, { name := "account", type := 3, offset := 1, embedded := false, tag := "", pkgPath := "narrows/history", byteOffset := 8 }, { name := "asset", type := 3, offset := 2, embedded := false, tag := "", pkgPath := "narrows/history", byteOffset := 16 }, { name := "line", type := 40, offset := 3, embedded := false, tag := "", pkgPath := "narrows/history", byteOffset := 24 }] : Array Field).mapM fun f => do pure (f.offset, ← sizeOf f.type) : Sem (Array (Nat × Nat))).run Try.prog w = .ok #[(0, 1), (1, 1), (2, 1), (3, 10)] w := fun w => by simp [sizeOf3, sizeOf40]
theorem one_27 (x : api_Wide) : oneAll (api_Wide.cs x) = true := rfl
theorem one_40 (x : history_Line) : oneAll (history_Line.cs x) = true := rfl
theorem eqv_27 (d : Nat) (x y : api_Wide) : EqV Try.prog (d + 2) 27 (Ag x.cs) (Ag y.cs) (decide (x = y)) :=
  EqV.cast (.array (by kernel_rfl) sizeOf25 (.cons (.one isAgg25 rfl) (.one isAgg25 rfl) (EqV.u (by kernel_rfl)) (.cons (.one isAgg25 rfl) (.one isAgg25 rfl) (EqV.u (by kernel_rfl)) (.cons (.one isAgg25 rfl) (.one isAgg25 rfl) (EqV.u (by kernel_rfl)) (.cons (.one isAgg25 rfl) (.one isAgg25 rfl) (EqV.u (by kernel_rfl)) .nil))))) (by cases x; cases y; rw [Bool.eq_iff_iff]; simp [api_Wide.mk.injEq, and_assoc])
theorem eq_27_eql (x y : api_Wide) : BinV Try.prog .eql 27 (Ag x.cs) (Ag y.cs) (Bo (decide (x = y))) := .eqv (by kernel_rfl) (eqv_27 9998 x y)
theorem eq_27_neq (x y : api_Wide) : BinV Try.prog .neq 27 (Ag x.cs) (Ag y.cs) (Bo (decide (x ≠ y))) := by
  have := BinV.neqv (P := Try.prog) (by kernel_rfl) (eqv_27 9998 x y); rw [← decide_not'] at this; exact this
theorem eqv_40 (d : Nat) (x y : history_Line) : EqV Try.prog (d + 3) 40 (Ag x.cs) (Ag y.cs) (decide (x = y)) :=
  EqV.cast (.struct (fs := [{ name := "Time", type := 3, offset := 0, embedded := false, tag := "", pkgPath := "", byteOffset := 0 }, { name := "Kind", type := 3, offset := 1, embedded := false, tag := "", pkgPath := "", byteOffset := 8 }, { name := "In", type := 27, offset := 2, embedded := false, tag := "", pkgPath := "", byteOffset := 16 }, { name := "Out", type := 27, offset := 6, embedded := false, tag := "", pkgPath := "", byteOffset := 48 }]) (by kernel_rfl) (by kernel_rfl) (.cons rfl (.one isAgg3 rfl) (.one isAgg3 rfl) (EqV.int (by kernel_rfl)) (.cons rfl (.one isAgg3 rfl) (.one isAgg3 rfl) (EqV.int (by kernel_rfl)) (.cons rfl (.agg isAgg27 sizeOf27 rfl) (.agg isAgg27 sizeOf27 rfl) (eqv_27 _ _ _) (.cons rfl (.agg isAgg27 sizeOf27 rfl) (.agg isAgg27 sizeOf27 rfl) (eqv_27 _ _ _) .nil))))) (by cases x; cases y; rw [Bool.eq_iff_iff]; simp [history_Line.mk.injEq, and_assoc])
theorem eq_40_eql (x y : history_Line) : BinV Try.prog .eql 40 (Ag x.cs) (Ag y.cs) (Bo (decide (x = y))) := .eqv (by kernel_rfl) (eqv_40 9997 x y)
theorem eq_40_neq (x y : history_Line) : BinV Try.prog .neq 40 (Ag x.cs) (Ag y.cs) (Bo (decide (x ≠ y))) := by
  have := BinV.neqv (P := Try.prog) (by kernel_rfl) (eqv_40 9997 x y); rw [← decide_not'] at this; exact this
noncomputable def history_teller_in (a0 : history_teller) (a1 : Int) (a2 : Int) (a3 : api_Wide) : history_teller :=
  thn (if (decide (a1 = a0.account)) = true then (decide (a2 = a0.asset)) else false) fun (y2 : Bool) => if y2 = true then (⟨a0.side, a0.account, a0.asset, ⟨a0.line.Time, a0.line.Kind, (wide_Add a0.line.In a3).1, a0.line.Out⟩⟩) else a0
set_option maxRecDepth 20000 in
set_option maxHeartbeats 1000000 in
theorem S_history_teller_in (b00 : Nat) (a0 : history_teller) (a1 : Int) (a2 : Int) (a3 : api_Wide) (r : history_teller) (h : history_teller_in a0 a1 a2 a3 = r) :
    SpecF Try.prog 120 [pt b00 0, N a1, N a2, Ag (api_Wide.cs a3)] [blk b00 120 (history_teller.cs a0)] [] (fun _ : Unit => True) (fun z => Tu []) (fun z M => blk b00 120 (history_teller.cs r) ::  M) (fun _ M => M) := by
  refine .of func120 rfl ntmps120 rfl fun w0 D0 G0 => ?_
  unfold history_teller_in at h
  refine .seq ?_
  refine .reg ?_
  refine .opx (X.box (cs := (api_Wide.cs a3)) .t3 rfl) rfl fun b1 => ?_
  refine .nil ?_
  refine .then ?_
  obtain ⟨y2, hj4, h⟩ := thn_eq h
  refine .cutx (γ := Unit) (E1 := fun z3 => [(21, Bo y2), (7, pt b1 0), (0, pt b00 0)]) (L1 := fun z3 => [blk b1 27 (api_Wide.cs a3), blk b00 120 (history_teller.cs a0)]) (R1 := fun z3 => []) ?_ (fun z3 => ?_)
  · clear h
    refine .reg ?_
    refine .opp (P.mov .t2) rfl ?_
    refine .opp (P.mov .g2) rfl ?_
    refine .opp (P.nilc .t0) rfl ?_
    refine .opp (P.fa .t0 fa_120_1 rfl) rfl ?_
    refine .op (V.ld (v := N a0.account) .t0 .k1 (.one isAgg3 rfl)) rfl ?_
    refine .opp (P.bin .t1 .t0 .eql) rfl ?_
    refine .opp (P.mov .t0) rfl ?_
    refine .split .k0 (fun c5 => ?_) (fun c5 => ?_)
    · rw [if_pos c5] at hj4
      refine .gyes rfl .g0 ?_
      refine .opp (P.mov .t3) rfl ?_
      refine .gyes rfl .g1 ?_
      refine .opp (P.mov .g3) rfl ?_
      refine .gyes rfl .g2 ?_
      refine .opp (P.nilc .t0) rfl ?_
      refine .gyes rfl .g2 ?_
      refine .opp (P.fa .t0 fa_120_2 rfl) rfl ?_
      refine .gyes rfl .g2 ?_
      refine .op (V.ld (v := N a0.asset) .t0 .k1 (.one isAgg3 rfl)) rfl ?_
      refine .gyes rfl .g2 ?_
      refine .opp (P.bin .t1 .t0 .eql) rfl ?_
      refine .opp (P.pickT .t1 .t0) rfl ?_
      refine .nil ?_
      subst hj4
      exact .stj () (.cons Mm.m0 (.cons Mm.m1 (.cons Mm.m2 .nil))) (.of (.cons .k0 (.cons .k0 .nil))) .nil
    · rw [if_neg (ne_true_of_eq_false c5)] at hj4
      refine .gno rfl .g0 rfl rfl ?_
      refine .gno rfl .g0 rfl rfl ?_
      refine .gno rfl .g0 rfl rfl ?_
      refine .gno rfl .g0 rfl rfl ?_
      refine .gno rfl .g0 rfl rfl ?_
      refine .gno rfl .g0 rfl rfl ?_
      refine .opp (P.pickF .t0 .k) rfl ?_
      refine .nil ?_
      subst hj4
      exact .stj () (.cons Mm.m0 (.cons Mm.m1 (.cons Mm.m2 .nil))) (.of (.cons .k0 (.cons .k0 .nil))) .nil
  · clear hj4
    refine .cond .t0 (fun c6 => ?_) (fun c6 => ?_)
    · rw [if_pos c6] at h
      refine .draw 7 (.on 0 .pu (.on 1 .pu (.on 2 .pu (.on 3 .pu (.on 4 .pu (.on 5 .ld (.on 6 .ld (.on 7 .go (.on 8 .pu (.on 9 .pu (.on 10 .pu (.on 11 .pu (.on 12 .pu (.on 13 .pu (.on 14 .go .nl))))))))))))))) follows_mixed .body (by kernel_rfl) ?_
      refine .dpu rfl (.n rfl) (P.mov .g1) rfl rfl ?_
      refine .dpu rfl (.n rfl) (P.mov .t2) rfl rfl ?_
      refine .dpu rfl (.n rfl) (P.nilc .t0) rfl rfl ?_
      refine .dpu rfl (.n rfl) (P.fa .t0 fa_120_3 rfl) rfl rfl ?_
      refine .dpu rfl (.n rfl) (P.fa .t0 fa_40_2 rfl) rfl rfl ?_
      refine .dld rfl (.n rfl) (V.ld (v := Ag (api_Wide.cs a0.line.In)) .t0 .k1 (.agg isAgg27 sizeOf27 rfl rfl)) (fun _ h => h) rfl rfl ?_
      refine .dld rfl (.n rfl) (V.ld (v := Ag (api_Wide.cs a3)) .t2 .k0 (.agg isAgg27 sizeOf27 rfl rfl)) (fun _ h => h) rfl rfl ?_
      refine .dgo rfl (.n rfl) (G.call call92 (.cons .t1 (.cons .t0 .nil)) (S_wide_Add a0.line.In a3 _ rfl) .nil .nil (fun _ _ => rfl) (fun _ _ => rfl) rfl) (.inl rfl) fun _ _ => ?_
      refine .dpu rfl (.n rfl) (P.mov .t0) rfl rfl ?_
      refine .dpu rfl (.n rfl) (P.ext (v := Ag (api_Wide.cs ((wide_Add a0.line.In a3).1))) .g0 rfl) rfl rfl ?_
      refine .dpu0 rfl (.n rfl) (P.ext (v := Bo ((wide_Add a0.line.In a3).2)) .t1 rfl) rfl rfl ?_
      refine .dpu rfl (.n rfl) (P.nilc .t1) rfl rfl ?_
      refine .dpu rfl (.n rfl) (P.fa .t0 fa_120_3 rfl) rfl rfl ?_
      refine .dpu rfl (.n rfl) (P.fa .t0 fa_40_2 rfl) rfl rfl ?_
      refine .dgo rfl (.n rfl) (G.str .t1 .t0 .k1 (.mk (cs' := (history_teller.cs ⟨a0.side, a0.account, a0.asset, ⟨a0.line.Time, a0.line.Kind, (wide_Add a0.line.In a3).1, a0.line.Out⟩⟩)) sizeOf27 rfl rfl rfl rfl)) (.inl rfl) fun _ _ => ?_
      refine .dnil ?_
      subst h
      exact .finwn () (.r0 rfl) trivial (Ls.of (.cons .k0 .nil)) .nil
    · rw [if_neg (ne_true_of_eq_false c6)] at h
      refine .skip ?_
      subst h
      exact .finwn () (.r0 rfl) trivial (Ls.of (.cons .k1 .nil)) .nil
attribute [irreducible] history_teller_in
noncomputable def history_teller_out (a0 : history_teller) (a1 : Int) (a2 : Int) (a3 : api_Wide) : history_teller :=
  thn (if (decide (a1 = a0.account)) = true then (decide (a2 = a0.asset)) else false) fun (y2 : Bool) => if y2 = true then (⟨a0.side, a0.account, a0.asset, ⟨a0.line.Time, a0.line.Kind, a0.line.In, (wide_Add a0.line.Out a3).1⟩⟩) else a0
set_option maxRecDepth 20000 in
set_option maxHeartbeats 1000000 in
theorem S_history_teller_out (b00 : Nat) (a0 : history_teller) (a1 : Int) (a2 : Int) (a3 : api_Wide) (r : history_teller) (h : history_teller_out a0 a1 a2 a3 = r) :
    SpecF Try.prog 119 [pt b00 0, N a1, N a2, Ag (api_Wide.cs a3)] [blk b00 120 (history_teller.cs a0)] [] (fun _ : Unit => True) (fun z => Tu []) (fun z M => blk b00 120 (history_teller.cs r) ::  M) (fun _ M => M) := by
  refine .of func119 rfl ntmps119 rfl fun w0 D0 G0 => ?_
  unfold history_teller_out at h
  refine .seq ?_
  refine .reg ?_
  refine .opx (X.box (cs := (api_Wide.cs a3)) .t3 rfl) rfl fun b1 => ?_
  refine .nil ?_
  refine .then ?_
  obtain ⟨y2, hj4, h⟩ := thn_eq h
  refine .cutx (γ := Unit) (E1 := fun z3 => [(21, Bo y2), (7, pt b1 0), (0, pt b00 0)]) (L1 := fun z3 => [blk b1 27 (api_Wide.cs a3), blk b00 120 (history_teller.cs a0)]) (R1 := fun z3 => []) ?_ (fun z3 => ?_)
  · clear h
    refine .reg ?_
    refine .opp (P.mov .t2) rfl ?_
    refine .opp (P.mov .g2) rfl ?_
    refine .opp (P.nilc .t0) rfl ?_
    refine .opp (P.fa .t0 fa_120_1 rfl) rfl ?_
    refine .op (V.ld (v := N a0.account) .t0 .k1 (.one isAgg3 rfl)) rfl ?_
    refine .opp (P.bin .t1 .t0 .eql) rfl ?_
    refine .opp (P.mov .t0) rfl ?_
    refine .split .k0 (fun c5 => ?_) (fun c5 => ?_)
    · rw [if_pos c5] at hj4
      refine .gyes rfl .g0 ?_
      refine .opp (P.mov .t3) rfl ?_
      refine .gyes rfl .g1 ?_
      refine .opp (P.mov .g3) rfl ?_
      refine .gyes rfl .g2 ?_
      refine .opp (P.nilc .t0) rfl ?_
      refine .gyes rfl .g2 ?_
      refine .opp (P.fa .t0 fa_120_2 rfl) rfl ?_
      refine .gyes rfl .g2 ?_
      refine .op (V.ld (v := N a0.asset) .t0 .k1 (.one isAgg3 rfl)) rfl ?_
      refine .gyes rfl .g2 ?_
      refine .opp (P.bin .t1 .t0 .eql) rfl ?_
      refine .opp (P.pickT .t1 .t0) rfl ?_
      refine .nil ?_
      subst hj4
      exact .stj () (.cons Mm.m0 (.cons Mm.m1 (.cons Mm.m2 .nil))) (.of (.cons .k0 (.cons .k0 .nil))) .nil
    · rw [if_neg (ne_true_of_eq_false c5)] at hj4
      refine .gno rfl .g0 rfl rfl ?_
      refine .gno rfl .g0 rfl rfl ?_
      refine .gno rfl .g0 rfl rfl ?_
      refine .gno rfl .g0 rfl rfl ?_
      refine .gno rfl .g0 rfl rfl ?_
      refine .gno rfl .g0 rfl rfl ?_
      refine .opp (P.pickF .t0 .k) rfl ?_
      refine .nil ?_
      subst hj4
      exact .stj () (.cons Mm.m0 (.cons Mm.m1 (.cons Mm.m2 .nil))) (.of (.cons .k0 (.cons .k0 .nil))) .nil
  · clear hj4
    refine .cond .t0 (fun c6 => ?_) (fun c6 => ?_)
    · rw [if_pos c6] at h
      refine .draw 7 (.on 0 .pu (.on 1 .pu (.on 2 .pu (.on 3 .pu (.on 4 .pu (.on 5 .ld (.on 6 .ld (.on 7 .go (.on 8 .pu (.on 9 .pu (.on 10 .pu (.on 11 .pu (.on 12 .pu (.on 13 .pu (.on 14 .go .nl))))))))))))))) follows_mixed .body (by kernel_rfl) ?_
      refine .dpu rfl (.n rfl) (P.mov .g1) rfl rfl ?_
      refine .dpu rfl (.n rfl) (P.mov .t2) rfl rfl ?_
      refine .dpu rfl (.n rfl) (P.nilc .t0) rfl rfl ?_
      refine .dpu rfl (.n rfl) (P.fa .t0 fa_120_3 rfl) rfl rfl ?_
      refine .dpu rfl (.n rfl) (P.fa .t0 fa_40_3 rfl) rfl rfl ?_
      refine .dld rfl (.n rfl) (V.ld (v := Ag (api_Wide.cs a0.line.Out)) .t0 .k1 (.agg isAgg27 sizeOf27 rfl rfl)) (fun _ h => h) rfl rfl ?_
      refine .dld rfl (.n rfl) (V.ld (v := Ag (api_Wide.cs a3)) .t2 .k0 (.agg isAgg27 sizeOf27 rfl rfl)) (fun _ h => h) rfl rfl ?_
      refine .dgo rfl (.n rfl) (G.call call92 (.cons .t1 (.cons .t0 .nil)) (S_wide_Add a0.line.Out a3 _ rfl) .nil .nil (fun _ _ => rfl) (fun _ _ => rfl) rfl) (.inl rfl) fun _ _ => ?_
      refine .dpu rfl (.n rfl) (P.mov .t0) rfl rfl ?_
      refine .dpu rfl (.n rfl) (P.ext (v := Ag (api_Wide.cs ((wide_Add a0.line.Out a3).1))) .g0 rfl) rfl rfl ?_
      refine .dpu0 rfl (.n rfl) (P.ext (v := Bo ((wide_Add a0.line.Out a3).2)) .t1 rfl) rfl rfl ?_
      refine .dpu rfl (.n rfl) (P.nilc .t1) rfl rfl ?_
      refine .dpu rfl (.n rfl) (P.fa .t0 fa_120_3 rfl) rfl rfl ?_
      refine .dpu rfl (.n rfl) (P.fa .t0 fa_40_3 rfl) rfl rfl ?_
      refine .dgo rfl (.n rfl) (G.str .t1 .t0 .k1 (.mk (cs' := (history_teller.cs ⟨a0.side, a0.account, a0.asset, ⟨a0.line.Time, a0.line.Kind, a0.line.In, (wide_Add a0.line.Out a3).1⟩⟩)) sizeOf27 rfl rfl rfl rfl)) (.inl rfl) fun _ _ => ?_
      refine .dnil ?_
      subst h
      exact .finwn () (.r0 rfl) trivial (Ls.of (.cons .k0 .nil)) .nil
    · rw [if_neg (ne_true_of_eq_false c6)] at h
      refine .skip ?_
      subst h
      exact .finwn () (.r0 rfl) trivial (Ls.of (.cons .k1 .nil)) .nil
attribute [irreducible] history_teller_out
noncomputable def history_teller_deal (a0 : history_teller) (a1 : api_Tx) : history_teller :=
  thn (if (decide (a1.Kind = 4)) = true then (decide (a0.side = 0)) else false) fun (y2 : Bool) => if y2 = true then (history_teller_out a0 a1.Inv.User a1.Inv.Send a1.Var.Amount) else (thn (if (decide (a1.Kind = 5)) = true then (decide (a0.side = 1)) else false) fun (y7 : Bool) => if y7 = true then ((history_teller_in ((history_teller_in a0 a1.Inv.To a1.Inv.Recv ((wide_Sub a1.Var.Amount a1.Fee).1))) a1.From a1.Inv.Recv a1.Fee)) else (thn (if (decide (a1.Kind = 6)) = true then (decide (a0.side = 0)) else false) fun (y13 : Bool) => if y13 = true then (history_teller_in a0 a1.Inv.User a1.Inv.Send a1.Var.Amount) else a0))
set_option maxRecDepth 20000 in
set_option maxHeartbeats 1000000 in
theorem S_history_teller_deal (b00 : Nat) (a0 : history_teller) (a1 : api_Tx) (r : history_teller) (h : history_teller_deal a0 a1 = r) :
    SpecF Try.prog 121 [pt b00 0, Ag (api_Tx.cs a1)] [blk b00 120 (history_teller.cs a0)] [] (fun _ : Unit => True) (fun z => Tu []) (fun z M => blk b00 120 (history_teller.cs r) ::  M) (fun _ M => M) := by
  refine .of func121 rfl ntmps121 rfl fun w0 D0 G0 => ?_
  unfold history_teller_deal at h
  refine .seq ?_
  refine .reg ?_
  refine .opx (X.box (cs := (api_Tx.cs a1)) .t1 rfl) rfl fun b1 => ?_
  refine .nil ?_
  refine .then ?_
  refine .block ?_
  obtain ⟨y2, hj4, h⟩ := thn_eq h
  refine .cutx (γ := Unit) (E1 := fun z3 => [(6, Bo y2), (3, pt b1 0), (0, pt b00 0)]) (L1 := fun z3 => [blk b1 36 (api_Tx.cs a1), blk b00 120 (history_teller.cs a0)]) (R1 := fun z3 => []) ?_ (fun z3 => ?_)
  · clear h
    refine .reg ?_
    refine .opp (P.fa .g0 fa_36_2 rfl) rfl ?_
    refine .op (V.ld (v := N a1.Kind) .t0 .k0 (.one isAgg3 rfl)) rfl ?_
    refine .opp (P.bin .t0 .k .eql) rfl ?_
    refine .opp (P.mov .t0) rfl ?_
    refine .split .k0 (fun c5 => ?_) (fun c5 => ?_)
    · rw [if_pos c5] at hj4
      refine .gyes rfl .g0 ?_
      refine .opp (P.mov .g2) rfl ?_
      refine .gyes rfl .g1 ?_
      refine .opp (P.nilc .t0) rfl ?_
      refine .gyes rfl .g1 ?_
      refine .opp (P.fa .t0 fa_120_0 rfl) rfl ?_
      refine .gyes rfl .g1 ?_
      refine .op (V.ld (v := N a0.side) .t0 .k1 (.one isAgg3 rfl)) rfl ?_
      refine .gyes rfl .g1 ?_
      refine .opp (P.bin .t0 .k .eql) rfl ?_
      refine .opp (P.pickT .t1 .t0) rfl ?_
      refine .opp (P.asg .t0) rfl ?_
      refine .nil ?_
      subst hj4
      exact .stj () (.cons Mm.m0 (.cons Mm.m1 (.cons Mm.m2 .nil))) (.of (.cons .k0 (.cons .k0 .nil))) .nil
    · rw [if_neg (ne_true_of_eq_false c5)] at hj4
      refine .gno rfl .g0 rfl rfl ?_
      refine .gno rfl .g0 rfl rfl ?_
      refine .gno rfl .g0 rfl rfl ?_
      refine .gno rfl .g0 rfl rfl ?_
      refine .gno rfl .g0 rfl rfl ?_
      refine .opp (P.pickF .t0 .k) rfl ?_
      refine .opp (P.asg .t0) rfl ?_
      refine .nil ?_
      subst hj4
      exact .stj () (.cons Mm.m0 (.cons Mm.m1 (.cons Mm.m2 .nil))) (.of (.cons .k0 (.cons .k0 .nil))) .nil
  · clear hj4
    refine .cond .t0 (fun c6 => ?_) (fun c6 => ?_)
    · rw [if_pos c6] at h
      refine .reg ?_
      refine .opp (P.mov .t1) rfl ?_
      refine .opp (P.fa .g1 fa_36_5 rfl) rfl ?_
      refine .opp (P.fa .t0 fa_32_0 rfl) rfl ?_
      refine .op (V.ld (v := N a1.Inv.User) .t0 .k0 (.one isAgg3 rfl)) rfl ?_
      refine .opp (P.fa .g2 fa_36_5 rfl) rfl ?_
      refine .opp (P.fa .t0 fa_32_3 rfl) rfl ?_
      refine .op (V.ld (v := N a1.Inv.Send) .t0 .k0 (.one isAgg3 rfl)) rfl ?_
      refine .opp (P.fa .t3 fa_36_6 rfl) rfl ?_
      refine .opp (P.fa .t0 fa_34_0 rfl) rfl ?_
      refine .op (V.ld (v := Ag (api_Wide.cs a1.Var.Amount)) .t0 .k0 (.agg isAgg27 sizeOf27 rfl rfl)) rfl ?_
      refine .opg (G.call call119 (.cons .t3 (.cons .t2 (.cons .t1 (.cons .t0 .nil)))) (S_history_teller_out b00 a0 a1.Inv.User a1.Inv.Send a1.Var.Amount _ rfl) (.cons .k1 .nil) .nil (fun _ _ => rfl) (fun _ _ => rfl) rfl) rfl fun _ _ => ?_
      refine .drop .k0 ?_
      refine .nil ?_
      refine .inn ?_
      subst h
      exact .finwn () (.r0 rfl) trivial (Ls.of (.cons .k0 .nil)) .nil
    · rw [if_neg (ne_true_of_eq_false c6)] at h
      obtain ⟨y7, hj9, h⟩ := thn_eq h
      refine .cutx (γ := Unit) (E1 := fun z8 => [(28, Bo y7), (3, pt b1 0), (0, pt b00 0)]) (L1 := fun z8 => [blk b1 36 (api_Tx.cs a1), blk b00 120 (history_teller.cs a0)]) (R1 := fun z8 => []) ?_ (fun z8 => ?_)
      · clear h
        refine .reg ?_
        refine .opp (P.fa .g0 fa_36_2 rfl) rfl ?_
        refine .op (V.ld (v := N a1.Kind) .t0 .k0 (.one isAgg3 rfl)) rfl ?_
        refine .opp (P.bin .t0 .k .eql) rfl ?_
        refine .opp (P.mov .t0) rfl ?_
        refine .split .k0 (fun c10 => ?_) (fun c10 => ?_)
        · rw [if_pos c10] at hj9
          refine .gyes rfl .g0 ?_
          refine .opp (P.mov .g2) rfl ?_
          refine .gyes rfl .g1 ?_
          refine .opp (P.nilc .t0) rfl ?_
          refine .gyes rfl .g1 ?_
          refine .opp (P.fa .t0 fa_120_0 rfl) rfl ?_
          refine .gyes rfl .g1 ?_
          refine .op (V.ld (v := N a0.side) .t0 .k1 (.one isAgg3 rfl)) rfl ?_
          refine .gyes rfl .g1 ?_
          refine .opp (P.bin .t0 .k .eql) rfl ?_
          refine .opp (P.pickT .t1 .t0) rfl ?_
          refine .opp (P.asg .t0) rfl ?_
          refine .nil ?_
          subst hj9
          exact .stj () (.cons Mm.m0 (.cons Mm.m1 (.cons Mm.m2 .nil))) (.of (.cons .k0 (.cons .k0 .nil))) .nil
        · rw [if_neg (ne_true_of_eq_false c10)] at hj9
          refine .gno rfl .g0 rfl rfl ?_
          refine .gno rfl .g0 rfl rfl ?_
          refine .gno rfl .g0 rfl rfl ?_
          refine .gno rfl .g0 rfl rfl ?_
          refine .gno rfl .g0 rfl rfl ?_
          refine .opp (P.pickF .t0 .k) rfl ?_
          refine .opp (P.asg .t0) rfl ?_
          refine .nil ?_
          subst hj9
          exact .stj () (.cons Mm.m0 (.cons Mm.m1 (.cons Mm.m2 .nil))) (.of (.cons .k0 (.cons .k0 .nil))) .nil
      · clear hj9
        refine .cond .t0 (fun c11 => ?_) (fun c11 => ?_)
        · rw [if_pos c11] at h
          refine .seq ?_
          refine .reg ?_
          refine .opp (P.fa .g0 fa_36_6 rfl) rfl ?_
          refine .opp (P.fa .t0 fa_34_0 rfl) rfl ?_
          refine .op (V.ld (v := Ag (api_Wide.cs a1.Var.Amount)) .t0 .k0 (.agg isAgg27 sizeOf27 rfl rfl)) rfl ?_
          refine .opp (P.fa .g1 fa_36_7 rfl) rfl ?_
          refine .op (V.ld (v := Ag (api_Wide.cs a1.Fee)) .t0 .k0 (.agg isAgg27 sizeOf27 rfl rfl)) rfl ?_
          refine .opg (G.call call70 (.cons .t1 (.cons .t0 .nil)) (S_wide_Sub a1.Var.Amount a1.Fee _ rfl) .nil .nil (fun _ _ => rfl) (fun _ _ => rfl) rfl) rfl fun _ _ => ?_
          refine .opp (P.mov .t0) rfl ?_
          refine .opp (P.ext (v := Ag (api_Wide.cs ((wide_Sub a1.Var.Amount a1.Fee).1))) .g0 rfl) rfl ?_
          refine .opp (P.ext (v := Bo ((wide_Sub a1.Var.Amount a1.Fee).2)) .t1 rfl) rfl ?_
          refine .opx (X.alc (cs := (api_Wide.cs ⟨0, 0, 0, 0⟩)) zeroValue27 rfl) rfl fun b12 => ?_
          refine .opg (G.str .t2 .g0 .k0 (.mk (cs' := (api_Wide.cs ((wide_Sub a1.Var.Amount a1.Fee).1))) sizeOf27 rfl rfl rfl rfl)) rfl fun _ _ => ?_
          refine .op0 (OpP.toV (P.asg .t1)) rfl ?_
          refine .nil ?_
          refine .then ?_
          refine .seq ?_
          refine .reg ?_
          refine .opp (P.mov .g2) rfl ?_
          refine .opp (P.fa .g2 fa_36_5 rfl) rfl ?_
          refine .opp (P.fa .t0 fa_32_5 rfl) rfl ?_
          refine .op (V.ld (v := N a1.Inv.To) .t0 .k1 (.one isAgg3 rfl)) rfl ?_
          refine .opp (P.fa .g3 fa_36_5 rfl) rfl ?_
          refine .opp (P.fa .t0 fa_32_4 rfl) rfl ?_
          refine .op (V.ld (v := N a1.Inv.Recv) .t0 .k1 (.one isAgg3 rfl)) rfl ?_
          refine .op (V.ld (v := Ag (api_Wide.cs ((wide_Sub a1.Var.Amount a1.Fee).1))) .t3 .k0 (.agg isAgg27 sizeOf27 rfl rfl)) rfl ?_
          refine .opg (G.call call120 (.cons .t3 (.cons .t2 (.cons .t1 (.cons .t0 .nil)))) (S_history_teller_in b00 a0 a1.Inv.To a1.Inv.Recv ((wide_Sub a1.Var.Amount a1.Fee).1) _ rfl) (.cons .k2 .nil) .nil (fun _ _ => rfl) (fun _ _ => rfl) rfl) rfl fun _ _ => ?_
          refine .drop .k0 ?_
          refine .nil ?_
          refine .then ?_
          refine .reg ?_
          refine .opp (P.mov .t1) rfl ?_
          refine .opp (P.fa .g1 fa_36_0 rfl) rfl ?_
          refine .op (V.ld (v := N a1.From) .t0 .k2 (.one isAgg3 rfl)) rfl ?_
          refine .opp (P.fa .g2 fa_36_5 rfl) rfl ?_
          refine .opp (P.fa .t0 fa_32_4 rfl) rfl ?_
          refine .op (V.ld (v := N a1.Inv.Recv) .t0 .k2 (.one isAgg3 rfl)) rfl ?_
          refine .opp (P.fa .t3 fa_36_7 rfl) rfl ?_
          refine .op (V.ld (v := Ag (api_Wide.cs a1.Fee)) .t0 .k2 (.agg isAgg27 sizeOf27 rfl rfl)) rfl ?_
          refine .opg (G.call call120 (.cons .t3 (.cons .t2 (.cons .t1 (.cons .t0 .nil)))) (S_history_teller_in b00 ((history_teller_in a0 a1.Inv.To a1.Inv.Recv ((wide_Sub a1.Var.Amount a1.Fee).1))) a1.From a1.Inv.Recv a1.Fee _ rfl) (.cons .k0 .nil) .nil (fun _ _ => rfl) (fun _ _ => rfl) rfl) rfl fun _ _ => ?_
          refine .drop .k0 ?_
          refine .nil ?_
          refine .inn ?_
          subst h
          exact .finwn () (.r0 rfl) trivial (Ls.of (.cons .k0 .nil)) .nil
        · rw [if_neg (ne_true_of_eq_false c11)] at h
          obtain ⟨y13, hj15, h⟩ := thn_eq h
          refine .cutx (γ := Unit) (E1 := fun z14 => [(66, Bo y13), (3, pt b1 0), (0, pt b00 0)]) (L1 := fun z14 => [blk b1 36 (api_Tx.cs a1), blk b00 120 (history_teller.cs a0)]) (R1 := fun z14 => []) ?_ (fun z14 => ?_)
          · clear h
            refine .reg ?_
            refine .opp (P.fa .g0 fa_36_2 rfl) rfl ?_
            refine .op (V.ld (v := N a1.Kind) .t0 .k0 (.one isAgg3 rfl)) rfl ?_
            refine .opp (P.bin .t0 .k .eql) rfl ?_
            refine .opp (P.mov .t0) rfl ?_
            refine .split .k0 (fun c16 => ?_) (fun c16 => ?_)
            · rw [if_pos c16] at hj15
              refine .gyes rfl .g0 ?_
              refine .opp (P.mov .g2) rfl ?_
              refine .gyes rfl .g1 ?_
              refine .opp (P.nilc .t0) rfl ?_
              refine .gyes rfl .g1 ?_
              refine .opp (P.fa .t0 fa_120_0 rfl) rfl ?_
              refine .gyes rfl .g1 ?_
              refine .op (V.ld (v := N a0.side) .t0 .k1 (.one isAgg3 rfl)) rfl ?_
              refine .gyes rfl .g1 ?_
              refine .opp (P.bin .t0 .k .eql) rfl ?_
              refine .opp (P.pickT .t1 .t0) rfl ?_
              refine .opp (P.asg .t0) rfl ?_
              refine .nil ?_
              subst hj15
              exact .stj () (.cons Mm.m0 (.cons Mm.m1 (.cons Mm.m2 .nil))) (.of (.cons .k0 (.cons .k0 .nil))) .nil
            · rw [if_neg (ne_true_of_eq_false c16)] at hj15
              refine .gno rfl .g0 rfl rfl ?_
              refine .gno rfl .g0 rfl rfl ?_
              refine .gno rfl .g0 rfl rfl ?_
              refine .gno rfl .g0 rfl rfl ?_
              refine .gno rfl .g0 rfl rfl ?_
              refine .opp (P.pickF .t0 .k) rfl ?_
              refine .opp (P.asg .t0) rfl ?_
              refine .nil ?_
              subst hj15
              exact .stj () (.cons Mm.m0 (.cons Mm.m1 (.cons Mm.m2 .nil))) (.of (.cons .k0 (.cons .k0 .nil))) .nil
          · clear hj15
            refine .cond .t0 (fun c17 => ?_) (fun c17 => ?_)
            · rw [if_pos c17] at h
              refine .reg ?_
              refine .opp (P.mov .t1) rfl ?_
              refine .opp (P.fa .g1 fa_36_5 rfl) rfl ?_
              refine .opp (P.fa .t0 fa_32_0 rfl) rfl ?_
              refine .op (V.ld (v := N a1.Inv.User) .t0 .k0 (.one isAgg3 rfl)) rfl ?_
              refine .opp (P.fa .g2 fa_36_5 rfl) rfl ?_
              refine .opp (P.fa .t0 fa_32_3 rfl) rfl ?_
              refine .op (V.ld (v := N a1.Inv.Send) .t0 .k0 (.one isAgg3 rfl)) rfl ?_
              refine .opp (P.fa .t3 fa_36_6 rfl) rfl ?_
              refine .opp (P.fa .t0 fa_34_0 rfl) rfl ?_
              refine .op (V.ld (v := Ag (api_Wide.cs a1.Var.Amount)) .t0 .k0 (.agg isAgg27 sizeOf27 rfl rfl)) rfl ?_
              refine .opg (G.call call120 (.cons .t3 (.cons .t2 (.cons .t1 (.cons .t0 .nil)))) (S_history_teller_in b00 a0 a1.Inv.User a1.Inv.Send a1.Var.Amount _ rfl) (.cons .k1 .nil) .nil (fun _ _ => rfl) (fun _ _ => rfl) rfl) rfl fun _ _ => ?_
              refine .drop .k0 ?_
              refine .nil ?_
              refine .inn ?_
              subst h
              exact .finwn () (.r0 rfl) trivial (Ls.of (.cons .k0 .nil)) .nil
            · rw [if_neg (ne_true_of_eq_false c17)] at h
              refine .skip ?_
              refine .inn ?_
              subst h
              exact .finwn () (.r0 rfl) trivial (Ls.of (.cons .k1 .nil)) .nil
attribute [irreducible] history_teller_deal
noncomputable def history_teller_tell (a0 : history_teller) (a1 : api_Event) : history_Line × history_teller :=
  if (decide (a1.Code ≠ 0)) = true then ((((history_teller_out (⟨a0.side, a0.account, a0.asset, ⟨a1.Time, a1.Tx.Kind, ⟨0, 0, 0, 0⟩, ⟨0, 0, 0, 0⟩⟩⟩ : history_teller) a1.Tx.From 0 ((wide_Of 1)))).line, (history_teller_out (⟨a0.side, a0.account, a0.asset, ⟨a1.Time, a1.Tx.Kind, ⟨0, 0, 0, 0⟩, ⟨0, 0, 0, 0⟩⟩⟩ : history_teller) a1.Tx.From 0 ((wide_Of 1))))) else (thn (if (decide (a1.Tx.Kind = 1)) = true then ((history_teller_in ((history_teller_out ((history_teller_out (⟨a0.side, a0.account, a0.asset, ⟨a1.Time, a1.Tx.Kind, ⟨0, 0, 0, 0⟩, ⟨0, 0, 0, 0⟩⟩⟩ : history_teller) a1.Tx.From 0 ((wide_Of 1)))) a1.Tx.From a1.Tx.Asset a1.Tx.Amount)) a1.Tx.Inv.To a1.Tx.Asset a1.Tx.Amount)) else (if (decide (a1.Tx.Kind = 2)) = true then ((history_teller_out ((history_teller_out (⟨a0.side, a0.account, a0.asset, ⟨a1.Time, a1.Tx.Kind, ⟨0, 0, 0, 0⟩, ⟨0, 0, 0, 0⟩⟩⟩ : history_teller) a1.Tx.From 0 ((wide_Of 1)))) a1.Tx.From a1.Tx.Asset a1.Tx.Amount)) else (if (decide (a1.Tx.Kind = 3)) = true then ((history_teller_in ((history_teller_out (⟨a0.side, a0.account, a0.asset, ⟨a1.Time, a1.Tx.Kind, ⟨0, 0, 0, 0⟩, ⟨0, 0, 0, 0⟩⟩⟩ : history_teller) a1.Tx.From 0 ((wide_Of 1)))) a1.Tx.From a1.Tx.Asset a1.Tx.Amount)) else ((history_teller_deal ((history_teller_out (⟨a0.side, a0.account, a0.asset, ⟨a1.Time, a1.Tx.Kind, ⟨0, 0, 0, 0⟩, ⟨0, 0, 0, 0⟩⟩⟩ : history_teller) a1.Tx.From 0 ((wide_Of 1)))) a1.Tx))))) fun (y5 : history_teller) => (y5.line, y5))
set_option maxRecDepth 20000 in
set_option maxHeartbeats 1000000 in
theorem S_history_teller_tell (b00 : Nat) (a0 : history_teller) (a1 : api_Event) (r : history_Line × history_teller) (h : history_teller_tell a0 a1 = r) :
    SpecF Try.prog 62 [pt b00 0, Ag (api_Event.cs a1)] [blk b00 120 (history_teller.cs a0)] [] (fun _ : Unit => True) (fun z => Ag (history_Line.cs r.1)) (fun z M => blk b00 120 (history_teller.cs r.2) ::  M) (fun _ M => M) := by
  refine .of func62 rfl ntmps62 rfl fun w0 D0 G0 => ?_
  unfold history_teller_tell at h
  refine .seq ?_
  refine .reg ?_
  refine .opx (X.box (cs := (api_Event.cs a1)) .t1 rfl) rfl fun b1 => ?_
  refine .opx (X.alc (cs := (history_Line.cs ⟨0, 0, ⟨0, 0, 0, 0⟩, ⟨0, 0, 0, 0⟩⟩)) zeroValue40 rfl) rfl fun b2 => ?_
  refine .nil ?_
  refine .then ?_
  refine .seq ?_
  refine .reg ?_
  refine .opp (P.fa .g1 fa_38_2 rfl) rfl ?_
  refine .op (V.ld (v := Ag (api_Tx.cs a1.Tx)) .t0 .k1 (.agg isAgg36 sizeOf36 rfl rfl)) rfl ?_
  refine .opx (X.alc (cs := (api_Tx.cs ⟨0, 0, 0, 0, ⟨0, 0, 0, 0⟩, ⟨0, ⟨#[]⟩, 0, 0, 0, 0, ⟨#[]⟩⟩, ⟨⟨0, 0, 0, 0⟩, 0⟩, ⟨0, 0, 0, 0⟩, ⟨#[]⟩⟩)) zeroValue36 rfl) rfl fun b3 => ?_
  refine .opg (G.str .t1 .g0 .k0 (.mk (cs' := (api_Tx.cs a1.Tx)) sizeOf36 rfl rfl rfl rfl)) rfl fun _ _ => ?_
  refine .nil ?_
  refine .then ?_
  refine .seq ?_
  refine .reg ?_
  refine .opp (P.mov .g3) rfl ?_
  refine .opp (P.fa .g3 fa_38_0 rfl) rfl ?_
  refine .op (V.ld (v := N a1.Time) .t0 .k2 (.one isAgg3 rfl)) rfl ?_
  refine .opp (P.fa .g2 fa_36_2 rfl) rfl ?_
  refine .op (V.ld (v := N a1.Tx.Kind) .t0 .k0 (.one isAgg3 rfl)) rfl ?_
  refine .opp (P.bld (v := Ag (history_Line.cs ⟨a1.Time, a1.Tx.Kind, ⟨0, 0, 0, 0⟩, ⟨0, 0, 0, 0⟩⟩)) (.cons .t1 (.cons .t0 .nil)) (bld_run zeroValue40 runUnderlying40 pl_40 (by kernel_rfl))) rfl ?_
  refine .opp (P.nilc .t1) rfl ?_
  refine .opp (P.fa .t0 fa_120_3 rfl) rfl ?_
  refine .opg (G.str .t1 .t0 .k3 (.mk (cs' := (history_teller.cs ⟨a0.side, a0.account, a0.asset, ⟨a1.Time, a1.Tx.Kind, ⟨0, 0, 0, 0⟩, ⟨0, 0, 0, 0⟩⟩⟩)) sizeOf40 rfl rfl rfl rfl)) rfl fun _ _ => ?_
  refine .nil ?_
  refine .then ?_
  refine .seq ?_
  refine .drawl [blk b3 36 (api_Tx.cs a1.Tx), blk b2 40 (history_Line.cs ⟨0, 0, ⟨0, 0, 0, 0⟩, ⟨0, 0, 0, 0⟩⟩), blk b1 38 (api_Event.cs a1)] [] (Ls.of (.cons .k1 (.cons .k1 (.cons .k1 .nil)))) Rs.nil 5 (.on 0 .pu (.on 1 .pu (.on 2 .ld (.on 3 .go (.on 4 .go .nl))))) follows_mixed (.thn .body) (by kernel_rfl) ?_
  refine .dpu rfl (.n rfl) (P.mov .g3) rfl rfl ?_
  refine .dpu rfl (.n rfl) (P.fa .g1 fa_36_0 rfl) rfl rfl ?_
  refine .dld rfl (.n rfl) (V.ld (v := N a1.Tx.From) .t0 .k0 (.one isAgg3 rfl)) (fun _ h => (h.imp (Ls.of (.cons .k1 (.cons .k1 (.cons .k1 .nil))))).ro Rs.nil) rfl rfl ?_
  refine .dgo rfl (.n rfl) (G.call call74 (.cons .k .nil) (S_wide_Of 1 _ rfl) .nil .nil (fun _ _ => rfl) (fun _ _ => rfl) rfl) (.inr fun _ _ _ h => (h.imp (Ls.of (.cons .k1 (.cons .k1 (.cons .k1 .nil))))).ro Rs.nil) fun _ _ => ?_
  refine .dgo rfl (.n rfl) (G.call call119 (.cons .t2 (.cons .t1 (.cons .k (.cons .t0 .nil)))) (S_history_teller_out b00 (⟨a0.side, a0.account, a0.asset, ⟨a1.Time, a1.Tx.Kind, ⟨0, 0, 0, 0⟩, ⟨0, 0, 0, 0⟩⟩⟩ : history_teller) a1.Tx.From 0 ((wide_Of 1)) _ rfl) (.cons .k0 .nil) .nil (fun _ _ => rfl) (fun _ _ => rfl) rfl) (.inr fun _ _ _ h => (h.imp (Ls.of (.cons .k1 (.cons .k1 (.cons .k1 .nil))))).ro Rs.nil) fun _ _ => ?_
  refine .drop .k0 ?_
  refine .dnil ?_
  refine .then ?_
  refine .seq ?_
  refine .seq ?_
  refine .reg ?_
  refine .opp (P.fa .t2 fa_38_1 rfl) rfl ?_
  refine .op (V.ld (v := N a1.Code) .t0 .k3 (.one isAgg30 rfl)) rfl ?_
  refine .opp (P.bin .t0 .k .neq) rfl ?_
  refine .nil ?_
  refine .then ?_
  refine .cond .t0 (fun c4 => ?_) (fun c4 => ?_)
  · rw [if_pos c4] at h
    refine .seq ?_
    refine .reg ?_
    refine .opp (P.mov .t2) rfl ?_
    refine .opp (P.nilc .t0) rfl ?_
    refine .opp (P.fa .t0 fa_120_3 rfl) rfl ?_
    refine .op (V.ld (v := Ag (history_Line.cs (((history_teller_out (⟨a0.side, a0.account, a0.asset, ⟨a1.Time, a1.Tx.Kind, ⟨0, 0, 0, 0⟩, ⟨0, 0, 0, 0⟩⟩⟩ : history_teller) a1.Tx.From 0 ((wide_Of 1)))).line))) .t0 .k0 (.agg isAgg40 sizeOf40 rfl rfl)) rfl ?_
    refine .opg (G.str .t0 .g1 .k2 (.mk (cs' := (history_Line.cs (((history_teller_out (⟨a0.side, a0.account, a0.asset, ⟨a1.Time, a1.Tx.Kind, ⟨0, 0, 0, 0⟩, ⟨0, 0, 0, 0⟩⟩⟩ : history_teller) a1.Tx.From 0 ((wide_Of 1)))).line))) sizeOf40 rfl rfl rfl rfl)) rfl fun _ _ => ?_
    refine .nil ?_
    refine .then ?_
    refine .ret ?_
    refine .thr ?_
    subst h
    exact .finw () (.r1 rfl (.cell .g1 .k0 (.agg isAgg40 sizeOf40 rfl rfl))) trivial (Ls.of (.cons .k1 .nil)) .nil
  · rw [if_neg (ne_true_of_eq_false c4)] at h
    refine .skip ?_
    refine .then ?_
    obtain ⟨y5, hj7, h⟩ := thn_eq h
    refine .cutx (γ := Unit) (E1 := fun z6 => [(4, pt b2 0), (0, pt b00 0)]) (L1 := fun z6 => [blk b00 120 (history_teller.cs y5), blk b2 40 (history_Line.cs ⟨0, 0, ⟨0, 0, 0, 0⟩, ⟨0, 0, 0, 0⟩⟩)]) (R1 := fun z6 => []) ?_ (fun z6 => ?_)
    · clear h
      refine .seq ?_
      refine .reg ?_
      refine .opp (P.fa .g0 fa_36_2 rfl) rfl ?_
      refine .op (V.ld (v := N a1.Tx.Kind) .t0 .k1 (.one isAgg3 rfl)) rfl ?_
      refine .nil ?_
      refine .then ?_
      refine .block ?_
      refine .seq ?_
      refine .reg ?_
      refine .opp (P.bin .g0 .k .eql) rfl ?_
      refine .opp (P.asg .t0) rfl ?_
      refine .nil ?_
      refine .then ?_
      refine .cond .t0 (fun c8 => ?_) (fun c8 => ?_)
      · rw [if_pos c8] at hj7
        refine .seq ?_
        refine .reg ?_
        refine .opp (P.mov .g3) rfl ?_
        refine .opp (P.fa .g2 fa_36_0 rfl) rfl ?_
        refine .op (V.ld (v := N a1.Tx.From) .t0 .k1 (.one isAgg3 rfl)) rfl ?_
        refine .opp (P.fa .g3 fa_36_3 rfl) rfl ?_
        refine .op (V.ld (v := N a1.Tx.Asset) .t0 .k1 (.one isAgg3 rfl)) rfl ?_
        refine .opp (P.fa .g4 fa_36_4 rfl) rfl ?_
        refine .op (V.ld (v := Ag (api_Wide.cs a1.Tx.Amount)) .t0 .k1 (.agg isAgg27 sizeOf27 rfl rfl)) rfl ?_
        refine .opg (G.call call119 (.cons .t3 (.cons .t2 (.cons .t1 (.cons .t0 .nil)))) (S_history_teller_out b00 ((history_teller_out (⟨a0.side, a0.account, a0.asset, ⟨a1.Time, a1.Tx.Kind, ⟨0, 0, 0, 0⟩, ⟨0, 0, 0, 0⟩⟩⟩ : history_teller) a1.Tx.From 0 ((wide_Of 1)))) a1.Tx.From a1.Tx.Asset a1.Tx.Amount _ rfl) (.cons .k0 .nil) .nil (fun _ _ => rfl) (fun _ _ => rfl) rfl) rfl fun _ _ => ?_
        refine .drop .k0 ?_
        refine .nil ?_
        refine .then ?_
        refine .reg ?_
        refine .opp (P.mov .g3) rfl ?_
        refine .opp (P.fa .g2 fa_36_5 rfl) rfl ?_
        refine .opp (P.fa .t0 fa_32_5 rfl) rfl ?_
        refine .op (V.ld (v := N a1.Tx.Inv.To) .t0 .k1 (.one isAgg3 rfl)) rfl ?_
        refine .opp (P.fa .g3 fa_36_3 rfl) rfl ?_
        refine .op (V.ld (v := N a1.Tx.Asset) .t0 .k1 (.one isAgg3 rfl)) rfl ?_
        refine .opp (P.fa .t4 fa_36_4 rfl) rfl ?_
        refine .op (V.ld (v := Ag (api_Wide.cs a1.Tx.Amount)) .t0 .k1 (.agg isAgg27 sizeOf27 rfl rfl)) rfl ?_
        refine .opg (G.call call120 (.cons .t3 (.cons .t2 (.cons .t1 (.cons .t0 .nil)))) (S_history_teller_in b00 ((history_teller_out ((history_teller_out (⟨a0.side, a0.account, a0.asset, ⟨a1.Time, a1.Tx.Kind, ⟨0, 0, 0, 0⟩, ⟨0, 0, 0, 0⟩⟩⟩ : history_teller) a1.Tx.From 0 ((wide_Of 1)))) a1.Tx.From a1.Tx.Asset a1.Tx.Amount)) a1.Tx.Inv.To a1.Tx.Asset a1.Tx.Amount _ rfl) (.cons .k0 .nil) .nil (fun _ _ => rfl) (fun _ _ => rfl) rfl) rfl fun _ _ => ?_
        refine .drop .k0 ?_
        refine .nil ?_
        refine .inn ?_
        subst hj7
        exact .stj () (.cons Mm.m1 (.cons Mm.m2 .nil)) (.of (.cons .k0 (.cons .k1 .nil))) .nil
      · rw [if_neg (ne_true_of_eq_false c8)] at hj7
        refine .seq ?_
        refine .reg ?_
        refine .opp (P.bin .g0 .k .eql) rfl ?_
        refine .opp (P.asg .t0) rfl ?_
        refine .nil ?_
        refine .then ?_
        refine .cond .t0 (fun c9 => ?_) (fun c9 => ?_)
        · rw [if_pos c9] at hj7
          refine .reg ?_
          refine .opp (P.mov .g3) rfl ?_
          refine .opp (P.fa .g2 fa_36_0 rfl) rfl ?_
          refine .op (V.ld (v := N a1.Tx.From) .t0 .k1 (.one isAgg3 rfl)) rfl ?_
          refine .opp (P.fa .g3 fa_36_3 rfl) rfl ?_
          refine .op (V.ld (v := N a1.Tx.Asset) .t0 .k1 (.one isAgg3 rfl)) rfl ?_
          refine .opp (P.fa .t4 fa_36_4 rfl) rfl ?_
          refine .op (V.ld (v := Ag (api_Wide.cs a1.Tx.Amount)) .t0 .k1 (.agg isAgg27 sizeOf27 rfl rfl)) rfl ?_
          refine .opg (G.call call119 (.cons .t3 (.cons .t2 (.cons .t1 (.cons .t0 .nil)))) (S_history_teller_out b00 ((history_teller_out (⟨a0.side, a0.account, a0.asset, ⟨a1.Time, a1.Tx.Kind, ⟨0, 0, 0, 0⟩, ⟨0, 0, 0, 0⟩⟩⟩ : history_teller) a1.Tx.From 0 ((wide_Of 1)))) a1.Tx.From a1.Tx.Asset a1.Tx.Amount _ rfl) (.cons .k0 .nil) .nil (fun _ _ => rfl) (fun _ _ => rfl) rfl) rfl fun _ _ => ?_
          refine .drop .k0 ?_
          refine .nil ?_
          refine .inn ?_
          subst hj7
          exact .stj () (.cons Mm.m1 (.cons Mm.m2 .nil)) (.of (.cons .k0 (.cons .k1 .nil))) .nil
        · rw [if_neg (ne_true_of_eq_false c9)] at hj7
          refine .seq ?_
          refine .reg ?_
          refine .opp (P.bin .t0 .k .eql) rfl ?_
          refine .opp (P.asg .t0) rfl ?_
          refine .nil ?_
          refine .then ?_
          refine .cond .t0 (fun c10 => ?_) (fun c10 => ?_)
          · rw [if_pos c10] at hj7
            refine .reg ?_
            refine .opp (P.mov .g2) rfl ?_
            refine .opp (P.fa .g1 fa_36_0 rfl) rfl ?_
            refine .op (V.ld (v := N a1.Tx.From) .t0 .k1 (.one isAgg3 rfl)) rfl ?_
            refine .opp (P.fa .g2 fa_36_3 rfl) rfl ?_
            refine .op (V.ld (v := N a1.Tx.Asset) .t0 .k1 (.one isAgg3 rfl)) rfl ?_
            refine .opp (P.fa .t3 fa_36_4 rfl) rfl ?_
            refine .op (V.ld (v := Ag (api_Wide.cs a1.Tx.Amount)) .t0 .k1 (.agg isAgg27 sizeOf27 rfl rfl)) rfl ?_
            refine .opg (G.call call120 (.cons .t3 (.cons .t2 (.cons .t1 (.cons .t0 .nil)))) (S_history_teller_in b00 ((history_teller_out (⟨a0.side, a0.account, a0.asset, ⟨a1.Time, a1.Tx.Kind, ⟨0, 0, 0, 0⟩, ⟨0, 0, 0, 0⟩⟩⟩ : history_teller) a1.Tx.From 0 ((wide_Of 1)))) a1.Tx.From a1.Tx.Asset a1.Tx.Amount _ rfl) (.cons .k0 .nil) .nil (fun _ _ => rfl) (fun _ _ => rfl) rfl) rfl fun _ _ => ?_
            refine .drop .k0 ?_
            refine .nil ?_
            refine .inn ?_
            subst hj7
            exact .stj () (.cons Mm.m0 (.cons Mm.m1 .nil)) (.of (.cons .k0 (.cons .k1 .nil))) .nil
          · rw [if_neg (ne_true_of_eq_false c10)] at hj7
            refine .reg ?_
            refine .opp (P.mov .g2) rfl ?_
            refine .op (V.ld (v := Ag (api_Tx.cs a1.Tx)) .t1 .k1 (.agg isAgg36 sizeOf36 rfl rfl)) rfl ?_
            refine .opg (G.call call121 (.cons .t1 (.cons .t0 .nil)) (S_history_teller_deal b00 ((history_teller_out (⟨a0.side, a0.account, a0.asset, ⟨a1.Time, a1.Tx.Kind, ⟨0, 0, 0, 0⟩, ⟨0, 0, 0, 0⟩⟩⟩ : history_teller) a1.Tx.From 0 ((wide_Of 1)))) a1.Tx _ rfl) (.cons .k0 .nil) .nil (fun _ _ => rfl) (fun _ _ => rfl) rfl) rfl fun _ _ => ?_
            refine .drop .k0 ?_
            refine .nil ?_
            refine .inn ?_
            subst hj7
            exact .stj () (.cons Mm.m0 (.cons Mm.m1 .nil)) (.of (.cons .k0 (.cons .k1 .nil))) .nil
    · clear hj7
      refine .seq ?_
      refine .reg ?_
      refine .opp (P.mov .t1) rfl ?_
      refine .opp (P.nilc .t0) rfl ?_
      refine .opp (P.fa .t0 fa_120_3 rfl) rfl ?_
      refine .op (V.ld (v := Ag (history_Line.cs y5.line)) .t0 .k0 (.agg isAgg40 sizeOf40 rfl rfl)) rfl ?_
      refine .opg (G.str .t0 .g0 .k1 (.mk (cs' := (history_Line.cs y5.line)) sizeOf40 rfl rfl rfl rfl)) rfl fun _ _ => ?_
      refine .nil ?_
      refine .then ?_
      refine .ret ?_
      subst h
      exact .finw () (.r1 rfl (.cell .g0 .k0 (.agg isAgg40 sizeOf40 rfl rfl))) trivial (Ls.of (.cons .k1 .nil)) .nil
attribute [irreducible] history_teller_tell
noncomputable def history_Of (a0 : List api_Event) (a1 : Int) (a2 : Int) (a3 : Int) : Option ((List history_Line)) :=
  Option.bind (loopR (fun (i2 : Nat) (e5 : api_Event) (s3 : history_teller × (List history_Line)) => Option.bind (thn (if (decide ((((history_teller_tell s3.1 e5).1).In : api_Wide) ≠ (⟨0, 0, 0, 0⟩ : api_Wide))) = true then true else (decide ((((history_teller_tell s3.1 e5).1).Out : api_Wide) ≠ (⟨0, 0, 0, 0⟩ : api_Wide)))) fun (y24 : Bool) => if y24 = true then (grd ((s3.2.length + ([(history_teller_tell s3.1 e5).1] : List history_Line).length) * 80 ≤ 140737488355328) <| some ((s3.2 ++ ([(history_teller_tell s3.1 e5).1] : List history_Line)))) else (some s3.2)) fun (y16 : (List history_Line)) => some (.nx (((history_teller_tell s3.1 e5).2, y16)))) 0 a0 (⟨bandK .i64 a1 1, a2, a3, ⟨0, 0, ⟨0, 0, 0, 0⟩, ⟨0, 0, 0, 0⟩⟩⟩, [])) fun o6 => Lo.on o6 fun (s3 : history_teller × (List history_Line)) => some s3.2
set_option maxRecDepth 20000 in
set_option maxHeartbeats 1000000 in
theorem S_history_Of (v00 : Value) (a0 : List api_Event) (a1 : Int) (a2 : Int) (a3 : Int) (r : (List history_Line)) (h : history_Of a0 a1 a2 a3 = some r) :
    SpecF Try.prog 17 [v00, N a1, N a2, N a3] [] [rows 27 v00 (a0.map api_Event.cs)] (fun _ : Value => True) (fun z => z) (fun z M => lst 40 10 z (r.map history_Line.cs) ::  M) (fun _ M => M) := by
  refine .of func17 rfl ntmps17 rfl fun w0 D0 G0 => ?_
  unfold history_Of at h
  refine .seq ?_
  refine .reg ?_
  refine .op0 (OpP.toV (P.asg .k)) rfl ?_
  refine .nil ?_
  refine .then ?_
  refine .seq ?_
  refine .reg ?_
  refine .opp (P.mov .t1) rfl ?_
  refine .opp (P.bin .t0 .k .and) rfl ?_
  refine .opp (P.mov .t2) rfl ?_
  refine .opp (P.mov .t3) rfl ?_
  refine .opp (P.bld (v := Ag (history_teller.cs ⟨bandK .i64 a1 1, a2, a3, ⟨0, 0, ⟨0, 0, 0, 0⟩, ⟨0, 0, 0, 0⟩⟩⟩)) (.cons .t2 (.cons .t1 (.cons .t0 .nil))) (bld_run zeroValue120 runUnderlying120 pl_120 (by kernel_rfl))) rfl ?_
  refine .opx (X.box (cs := (history_teller.cs ⟨bandK .i64 a1 1, a2, a3, ⟨0, 0, ⟨0, 0, 0, 0⟩, ⟨0, 0, 0, 0⟩⟩⟩)) .t0 rfl) rfl fun b1 => ?_
  refine .opp (P.asg .t0) rfl ?_
  refine .nil ?_
  refine .then ?_
  refine .seq ?_
  refine .reg ?_
  refine .opp (P.asg .k) rfl ?_
  refine .nil ?_
  refine .then ?_
  refine .seq ?_
  refine .seq ?_
  refine .reg ?_
  refine .opp (P.mov .t2) rfl ?_
  refine .op (V.lnr (n := a0.length) .g0 Mm.m0 map_len runUnderlying22) rfl ?_
  refine .opp (P.mov .k) rfl ?_
  refine .nil ?_
  refine .then ?_
  refine .block ?_
  refine .lnil 40 10 ?_
  obtain ⟨o6, ho7, h⟩ := bnd_eq h
  refine .lenq Mm.m0 fun hl13 => ?_
  rw [map_len] at hl13
  refine .loopR (γ := Value) (fun i2 (s3 : history_teller × (List history_Line)) z4 => [(22, N ((i2 : Int))), (21, N ((a0.length : Int))), (20, v00), (10, z4), (9, pt b1 0)]) (fun (s3 : history_teller × (List history_Line)) z4 => [blk b1 120 (history_teller.cs s3.1), lst 40 10 z4 (s3.2.map history_Line.cs)]) (fun (s3 : history_teller × (List history_Line)) z4 => [rows 27 v00 (a0.map api_Event.cs)]) nilSl ho7 (.cons Mm.m0 (.cons Mm.m1 (.cons Mm.m2 (.cons Mm.m3 (.cons Mm.m4 .nil))))) (.of (.cons .k1 (.cons .k0 .nil))) (.cons Mm.m0 .nil) (fun i2 s3 z4 hi14 hr10 => ?_)
  refine .seq ?_
  refine .reg ?_
  refine .opp (P.bin (v := Bo (decide ((i2 : Int) < (a0.length : Nat)))) .g0 .g1 .lss) rfl ?_
  refine .nil ?_
  refine .then ?_
  refine .seq ?_
  refine .cond .t0 (fun c15 => ?_) (fun c15 => ?_)
  · obtain ⟨e5, hx12⟩ := get_of c15
    obtain ⟨ct11, hc8, hn9⟩ := loopR_at hx12 hr10
    refine .skip ?_
    refine .then ?_
    obtain ⟨y16, hj18, hc8⟩ := bnd_eq hc8
    refine .cutx (γ := Value) (E1 := fun z17 => [(10, z17), (22, N ((i2 : Int))), (21, N ((a0.length : Int))), (20, v00), (9, pt b1 0)]) (L1 := fun z17 => [blk b1 120 (history_teller.cs ((history_teller_tell s3.1 e5).2)), lst 40 10 z17 (y16.map history_Line.cs)]) (R1 := fun z17 => [rows 27 v00 (a0.map api_Event.cs)]) ?_ (fun z17 => ?_)
    · clear hc8
      refine .block ?_
      refine .seq ?_
      refine .reg ?_
      refine .ixq Mm.m0 (map_get hx12) fun p19 q20 hq21 => ?_
      refine .opp (P.ixi (i := i2) .g0 rfl .g2 hq21 runUnderlying22 sizeOf38) rfl ?_
      refine .op (V.ldx0 (u := Ag (api_Event.cs e5)) .t0 hq21 Mm.m0 (map_get hx12) (.agg isAgg38 sizeOf38 rfl rfl)) rfl ?_
      refine .opx (X.alc (cs := (api_Event.cs ⟨0, 0, ⟨0, 0, 0, 0, ⟨0, 0, 0, 0⟩, ⟨0, ⟨#[]⟩, 0, 0, 0, 0, ⟨#[]⟩⟩, ⟨⟨0, 0, 0, 0⟩, 0⟩, ⟨0, 0, 0, 0⟩, ⟨#[]⟩⟩⟩)) zeroValue38 rfl) rfl fun b22 => ?_
      refine .opg (G.str .t1 .g0 .k0 (.mk (cs' := (api_Event.cs e5)) sizeOf38 rfl rfl rfl rfl)) rfl fun _ _ => ?_
      refine .nil ?_
      refine .then ?_
      refine .seq ?_
      refine .reg ?_
      refine .opp (P.mov .g5) rfl ?_
      refine .op (V.ld (v := Ag (api_Event.cs e5)) .t1 .k0 (.agg isAgg38 sizeOf38 rfl rfl)) rfl ?_
      refine .opg (G.call call62 (.cons .t1 (.cons .t0 .nil)) (S_history_teller_tell b1 s3.1 e5 _ rfl) (.cons .k1 .nil) .nil (fun _ _ => rfl) (fun _ _ => rfl) rfl) rfl fun _ _ => ?_
      refine .opx (X.alc (cs := (history_Line.cs ⟨0, 0, ⟨0, 0, 0, 0⟩, ⟨0, 0, 0, 0⟩⟩)) zeroValue40 rfl) rfl fun b23 => ?_
      refine .opg (G.str .t1 .g0 .k0 (.mk (cs' := (history_Line.cs ((history_teller_tell s3.1 e5).1))) sizeOf40 rfl rfl rfl rfl)) rfl fun _ _ => ?_
      refine .nil ?_
      refine .then ?_
      obtain ⟨y24, hj26, hj18⟩ := thn_eq hj18
      refine .cutx (γ := Unit) (E1 := fun z25 => [(38, Bo y24), (13, pt b23 0), (22, N ((i2 : Int))), (21, N ((a0.length : Int))), (20, v00), (10, z4), (9, pt b1 0)]) (L1 := fun z25 => [blk b23 40 (history_Line.cs ((history_teller_tell s3.1 e5).1)), blk b1 120 (history_teller.cs ((history_teller_tell s3.1 e5).2)), lst 40 10 z4 (s3.2.map history_Line.cs)]) (R1 := fun z25 => [rows 27 v00 (a0.map api_Event.cs)]) ?_ (fun z25 => ?_)
      · clear hj18
        refine .reg ?_
        refine .opp (P.fa .g0 fa_40_2 rfl) rfl ?_
        refine .op (V.ld (v := Ag (api_Wide.cs (((history_teller_tell s3.1 e5).1).In))) .t0 .k0 (.agg isAgg27 sizeOf27 rfl rfl)) rfl ?_
        refine .opp (P.bld (v := Ag (api_Wide.cs ⟨0, 0, 0, 0⟩)) .nil (bld_runA zeroValue27 runUnderlying27 sizeOf25 (by kernel_rfl))) rfl ?_
        refine .opp (P.bin .t1 .t0 (eq_27_neq _ _)) rfl ?_
        refine .opp (P.mov .t0) rfl ?_
        refine .split .k0 (fun c27 => ?_) (fun c27 => ?_)
        · rw [if_pos c27] at hj26
          refine .gno rfl .g0 rfl rfl ?_
          refine .gno rfl .g0 rfl rfl ?_
          refine .gno rfl .g0 rfl rfl ?_
          refine .gno rfl .g0 rfl rfl ?_
          refine .opp (P.pickT .t0 .k) rfl ?_
          refine .nil ?_
          subst hj26
          exact .stj () (.cons Mm.m0 (.cons Mm.m1 (.cons Mm.m2 (.cons Mm.m3 (.cons Mm.m4 (.cons Mm.m5 (.cons Mm.m6 .nil))))))) (.of (.cons .k0 (.cons .k0 (.cons .k1 .nil)))) (.cons Mm.m0 .nil)
        · rw [if_neg (ne_true_of_eq_false c27)] at hj26
          refine .gyes rfl .g0 ?_
          refine .opp (P.fa .g1 fa_40_3 rfl) rfl ?_
          refine .gyes rfl .g1 ?_
          refine .op (V.ld (v := Ag (api_Wide.cs (((history_teller_tell s3.1 e5).1).Out))) .g0 .k0 (.agg isAgg27 sizeOf27 rfl rfl)) rfl ?_
          refine .gyes rfl .g2 ?_
          refine .opp (P.bld (v := Ag (api_Wide.cs ⟨0, 0, 0, 0⟩)) .nil (bld_runA zeroValue27 runUnderlying27 sizeOf25 (by kernel_rfl))) rfl ?_
          refine .gyes rfl .g3 ?_
          refine .opp (P.bin .g1 .g0 (eq_27_neq _ _)) rfl ?_
          refine .opp (P.pickF .t4 .g0) rfl ?_
          refine .nil ?_
          subst hj26
          exact .stj () (.cons Mm.m0 (.cons Mm.m5 (.cons Mm.m6 (.cons Mm.m7 (.cons Mm.m8 (.cons Mm.m9 (.cons Mm.m10 .nil))))))) (.of (.cons .k0 (.cons .k0 (.cons .k1 .nil)))) (.cons Mm.m0 .nil)
      · clear hj26
        refine .cond .t0 (fun c28 => ?_) (fun c28 => ?_)
        · rw [if_pos c28] at hj18
          refine .reg ?_
          refine .opp (P.mov .g4) rfl ?_
          refine .op (V.ld (v := Ag (history_Line.cs ((history_teller_tell s3.1 e5).1))) .t1 .k0 (.agg isAgg40 sizeOf40 rfl rfl)) rfl ?_
          refine .opg (G.bsl (cs := (history_Line.cs ((history_teller_tell s3.1 e5).1))) .t0 runUnderlying24 sizeOf40 zeroValue40 rfl rfl rfl rfl rfl) rfl fun u29 _ => ?_
          obtain ⟨hb31, hj18⟩ := grd_eq hj18
          refine .opg (G.app (by_ := 80) .t1 .t0 .k3 (.inr (.inr ⟨_, Mm.m0⟩)) runUnderlying24 runUnderlying24 sizeOf40 typeInfo40 rfl rfl zeroValue40 rfl rfl (by simpa using hb31) rfl) rfl fun u30 _ => ?_
          refine .conseq .k0 (q := lst 40 10 u30 (((s3.2 ++ ([(history_teller_tell s3.1 e5).1] : List history_Line))).map history_Line.cs)) (fun _ hh => by simpa [List.map_append] using hh) ?_
          refine .drop .k4 ?_
          refine .opp (P.asg .t0) rfl ?_
          refine .nil ?_
          refine .inn ?_
          cases hj18
          exact .stj u30 (.cons Mm.m0 (.cons Mm.m1 (.cons Mm.m2 (.cons Mm.m3 (.cons Mm.m4 .nil))))) (.of (.cons .k3 (.cons .k0 .nil))) (.cons Mm.m0 .nil)
        · rw [if_neg (ne_true_of_eq_false c28)] at hj18
          refine .skip ?_
          refine .inn ?_
          cases hj18
          exact .stj z4 (.cons Mm.m4 (.cons Mm.m1 (.cons Mm.m2 (.cons Mm.m3 (.cons Mm.m5 .nil))))) (.of (.cons .k1 (.cons .k1 .nil))) (.cons Mm.m0 .nil)
    · clear hj18
      refine .reg ?_
      refine .opp (P.bin .g1 .k (.addc (inc_ok (lt_of_get hx12) hl13))) rfl ?_
      refine .drop .k2 ?_
      refine .opp (P.mov .t0) rfl ?_
      refine .nil ?_
      cases hc8
      exact .rdR (((history_teller_tell s3.1 e5).2, y16)) z17 hn9 (lt_of_get hx12) (.cons Mm.m0 (.cons Mm.m2 (.cons Mm.m3 (.cons Mm.m1 (.cons Mm.m4 .nil))))) (.of (.cons .k0 (.cons .k0 .nil))) (.cons Mm.m0 .nil)
  · obtain rfl := loopR_end (le_of_not c15) hr10
    have h := dn_on h
    refine .exit ?_
    refine .thx ?_
    refine .thx ?_
    refine .inb ?_
    refine .then ?_
    refine .seq ?_
    refine .reg ?_
    refine .opp (P.mov .t3) rfl ?_
    refine .opp (P.asg .t0) rfl ?_
    refine .nil ?_
    refine .then ?_
    refine .ret ?_
    cases h
    exact .finw z4 (.r1 rfl (.tmp .g0)) trivial (Ls.of (.cons .k1 .nil)) .nil
attribute [irreducible] history_Of
noncomputable def history_Balance (a0 : List api_Event) (a1 : Int) (a2 : Int) (a3 : Int) : Option (api_Wide × Bool) :=
  thn (if (decide (a2 < 0)) = true then true else (if (decide (a2 ≥ 8)) = true then true else (if (decide (a3 < 0)) = true then true else (decide (a3 ≥ 2))))) fun (y2 : Bool) => if y2 = true then (some (⟨0, 0, 0, 0⟩, false)) else (Option.bind (history_Of a0 a1 a2 a3) fun r11 => Option.bind (loopR (fun (i14 : Nat) (e17 : history_Line) (s15 : (List api_Wide) × (List api_Wide)) => grd ((s15.2.length + ([e17.In] : List api_Wide).length) * 32 ≤ 140737488355328) <| grd ((s15.1.length + ([e17.Out] : List api_Wide).length) * 32 ≤ 140737488355328) <| some (.nx (((s15.1 ++ ([e17.Out] : List api_Wide)), (s15.2 ++ ([e17.In] : List api_Wide)))))) 0 r11 (([], [(wide_Of 1000)]))) fun o18 => Lo.on o18 fun (s15 : (List api_Wide) × (List api_Wide)) => Option.bind (wide_Sum s15.2) fun r38 => Option.bind (wide_Sum s15.1) fun r41 => thn (if (!r38.2) = true then true else (if (!r41.2) = true then true else (!((wide_Sub r38.1 r41.1).2)))) fun (y45 : Bool) => if y45 = true then (some (⟨0, 0, 0, 0⟩, false)) else (some (((wide_Sub r38.1 r41.1).1, true))))
set_option maxRecDepth 20000 in
set_option maxHeartbeats 1000000 in
theorem S_history_Balance (v00 : Value) (a0 : List api_Event) (a1 : Int) (a2 : Int) (a3 : Int) (r : api_Wide × Bool) (h : history_Balance a0 a1 a2 a3 = some r) :
    SpecF Try.prog 61 [v00, N a1, N a2, N a3] [] [rows 27 v00 (a0.map api_Event.cs)] (fun _ : Unit => True) (fun z => Tu [Ag (api_Wide.cs r.1), Bo r.2]) (fun z M =>  M) (fun _ M => M) := by
  refine .of func61 rfl ntmps61 rfl fun w0 D0 G0 => ?_
  unfold history_Balance at h
  refine .seq ?_
  refine .reg ?_
  refine .opx (X.alc (cs := (api_Wide.cs ⟨0, 0, 0, 0⟩)) zeroValue27 rfl) rfl fun b1 => ?_
  refine .op0 (OpP.toV (P.asg .k)) rfl ?_
  refine .nil ?_
  refine .then ?_
  refine .seq ?_
  obtain ⟨y2, hj4, h⟩ := thn_eq h
  refine .cutx (γ := Unit) (E1 := fun z3 => [(33, Bo y2), (8, pt b1 0), (0, v00), (1, N a1), (2, N a2), (3, N a3)]) (L1 := fun z3 => [blk b1 27 (api_Wide.cs ⟨0, 0, 0, 0⟩)]) (R1 := fun z3 => [rows 27 v00 (a0.map api_Event.cs)]) ?_ (fun z3 => ?_)
  · clear h
    refine .reg ?_
    refine .opp (P.mov .g3) rfl ?_
    refine .opp (P.bin .t0 .k .lss) rfl ?_
    refine .opp (P.mov .t0) rfl ?_
    refine .split .k0 (fun c5 => ?_) (fun c5 => ?_)
    · rw [if_pos c5] at hj4
      refine .gno rfl .g0 rfl rfl ?_
      refine .gno rfl .g0 rfl rfl ?_
      refine .opp (P.pickT .t0 .k) rfl ?_
      refine .opp (P.mov .t0) rfl ?_
      refine .gno rfl .g0 rfl rfl ?_
      refine .gno rfl .g0 rfl rfl ?_
      refine .opp (P.pickT .t0 .k) rfl ?_
      refine .opp (P.mov .t0) rfl ?_
      refine .gno rfl .g0 rfl rfl ?_
      refine .gno rfl .g0 rfl rfl ?_
      refine .opp (P.pickT .t0 .k) rfl ?_
      refine .nil ?_
      subst hj4
      exact .stj () (.cons Mm.m0 (.cons Mm.m1 (.cons Mm.m2 (.cons Mm.m3 (.cons Mm.m4 (.cons Mm.m5 .nil)))))) (.of (.cons .k0 .nil)) (.cons Mm.m0 .nil)
    · rw [if_neg (ne_true_of_eq_false c5)] at hj4
      refine .gyes rfl .g0 ?_
      refine .opp (P.mov .g4) rfl ?_
      refine .gyes rfl .g1 ?_
      refine .opp (P.bin .t0 .k .geq) rfl ?_
      refine .opp (P.pickF .t1 .t0) rfl ?_
      refine .opp (P.mov .t0) rfl ?_
      refine .split .k0 (fun c6 => ?_) (fun c6 => ?_)
      · rw [if_pos c6] at hj4
        refine .gno rfl .g0 rfl rfl ?_
        refine .gno rfl .g0 rfl rfl ?_
        refine .opp (P.pickT .t0 .k) rfl ?_
        refine .opp (P.mov .t0) rfl ?_
        refine .gno rfl .g0 rfl rfl ?_
        refine .gno rfl .g0 rfl rfl ?_
        refine .opp (P.pickT .t0 .k) rfl ?_
        refine .nil ?_
        subst hj4
        exact .stj () (.cons Mm.m0 (.cons Mm.m1 (.cons Mm.m2 (.cons Mm.m3 (.cons Mm.m4 (.cons Mm.m5 .nil)))))) (.of (.cons .k0 .nil)) (.cons Mm.m0 .nil)
      · rw [if_neg (ne_true_of_eq_false c6)] at hj4
        refine .gyes rfl .g0 ?_
        refine .opp (P.mov .g5) rfl ?_
        refine .gyes rfl .g1 ?_
        refine .opp (P.bin .t0 .k .lss) rfl ?_
        refine .opp (P.pickF .t1 .t0) rfl ?_
        refine .opp (P.mov .t0) rfl ?_
        refine .split .k0 (fun c7 => ?_) (fun c7 => ?_)
        · rw [if_pos c7] at hj4
          refine .gno rfl .g0 rfl rfl ?_
          refine .gno rfl .g0 rfl rfl ?_
          refine .opp (P.pickT .t0 .k) rfl ?_
          refine .nil ?_
          subst hj4
          exact .stj () (.cons Mm.m0 (.cons Mm.m1 (.cons Mm.m2 (.cons Mm.m3 (.cons Mm.m4 (.cons Mm.m5 .nil)))))) (.of (.cons .k0 .nil)) (.cons Mm.m0 .nil)
        · rw [if_neg (ne_true_of_eq_false c7)] at hj4
          refine .gyes rfl .g0 ?_
          refine .opp (P.mov .g5) rfl ?_
          refine .gyes rfl .g1 ?_
          refine .opp (P.bin .t0 .k .geq) rfl ?_
          refine .opp (P.pickF .t1 .t0) rfl ?_
          refine .nil ?_
          subst hj4
          exact .stj () (.cons Mm.m0 (.cons Mm.m1 (.cons Mm.m2 (.cons Mm.m3 (.cons Mm.m4 (.cons Mm.m5 .nil)))))) (.of (.cons .k0 .nil)) (.cons Mm.m0 .nil)
  · clear hj4
    refine .cond .t0 (fun c8 => ?_) (fun c8 => ?_)
    · rw [if_pos c8] at h
      refine .seq ?_
      refine .reg ?_
      refine .opp (P.bld (v := Ag (api_Wide.cs ⟨0, 0, 0, 0⟩)) .nil (bld_runA zeroValue27 runUnderlying27 sizeOf25 (by kernel_rfl))) rfl ?_
      refine .opg (G.str .t0 .g0 .k0 (.mk (cs' := (api_Wide.cs ⟨0, 0, 0, 0⟩)) sizeOf27 rfl rfl rfl rfl)) rfl fun _ _ => ?_
      refine .opp (P.asg .k) rfl ?_
      refine .nil ?_
      refine .then ?_
      refine .ret ?_
      refine .thr ?_
      cases h
      exact .finw () (.r2 rfl (.cell .g1 .k0 (.agg isAgg27 sizeOf27 rfl rfl)) (.tmp .g0)) trivial (Ls.of .nil) .nil
    · rw [if_neg (ne_true_of_eq_false c8)] at h
      refine .skip ?_
      refine .then ?_
      refine .seq ?_
      refine .reg ?_
      refine .opg (G.call call74 (.cons .k .nil) (S_wide_Of 1000 _ rfl) .nil .nil (fun _ _ => rfl) (fun _ _ => rfl) rfl) rfl fun _ _ => ?_
      refine .opg (G.bsl (cs := (api_Wide.cs ((wide_Of 1000)))) .t0 runUnderlying135 sizeOf27 zeroValue27 rfl rfl rfl rfl rfl) rfl fun u9 _ => ?_
      refine .opg (G.bsl0 runUnderlying135 sizeOf27 rfl) rfl fun u10 _ => ?_
      refine .opp (P.asg .t1) rfl ?_
      refine .opp (P.asg .t1) rfl ?_
      refine .nil ?_
      refine .then ?_
      refine .seq ?_
      refine .seq ?_
      refine .reg ?_
      refine .opp (P.mov .t3) rfl ?_
      refine .opp (P.mov .t4) rfl ?_
      refine .opp (P.mov .t5) rfl ?_
      refine .opp (P.mov .t6) rfl ?_
      obtain ⟨r11, hr12, h⟩ := bnd_eq h
      refine .opg (G.call call17 (.cons .t3 (.cons .t2 (.cons .t1 (.cons .t0 .nil)))) (S_history_Of v00 a0 a1 a2 a3 r11 hr12) .nil (.cons Mm.m0 .nil) (fun _ _ => rfl) (fun _ _ => rfl) rfl) rfl fun u13 _ => ?_
      refine .op (V.lnl (n := r11.length) .g0 .k0 map_len runUnderlying24) rfl ?_
      refine .opp (P.mov .k) rfl ?_
      refine .nil ?_
      refine .then ?_
      refine .block ?_
      refine .frz .k0 ?_
      obtain ⟨o18, ho19, h⟩ := bnd_eq h
      refine .lenq Mm.m0 fun hl25 => ?_
      rw [map_len] at hl25
      refine .loopR (γ := Value × Value) (fun i14 (s15 : (List api_Wide) × (List api_Wide)) z16 => [(44, N ((i14 : Int))), (43, N ((r11.length : Int))), (42, u13), (11, z16.1), (10, z16.2), (8, pt b1 0)]) (fun (s15 : (List api_Wide) × (List api_Wide)) z16 => [blk b1 27 (api_Wide.cs ⟨0, 0, 0, 0⟩), lst 27 4 z16.1 (s15.1.map api_Wide.cs), lst 27 4 z16.2 (s15.2.map api_Wide.cs)]) (fun (s15 : (List api_Wide) × (List api_Wide)) z16 => [rows 10 u13 (r11.map history_Line.cs), rows 27 v00 (a0.map api_Event.cs)]) ⟨u10, u9⟩ ho19 (.cons Mm.m0 (.cons Mm.m1 (.cons Mm.m2 (.cons Mm.m3 (.cons Mm.m4 (.cons Mm.m5 .nil)))))) (.of (.cons .k2 (.cons .k0 (.cons .k0 .nil)))) (.cons Mm.m0 (.cons Mm.m1 .nil)) (fun i14 s15 z16 hi26 hr22 => ?_)
      refine .seq ?_
      refine .reg ?_
      refine .opp (P.bin (v := Bo (decide ((i14 : Int) < (r11.length : Nat)))) .g0 .g1 .lss) rfl ?_
      refine .nil ?_
      refine .then ?_
      refine .seq ?_
      refine .cond .t0 (fun c27 => ?_) (fun c27 => ?_)
      · obtain ⟨e17, hx24⟩ := get_of c27
        obtain ⟨ct23, hc20, hn21⟩ := loopR_at hx24 hr22
        refine .skip ?_
        refine .then ?_
        refine .seq ?_
        refine .block ?_
        refine .seq ?_
        refine .reg ?_
        refine .ixq Mm.m0 (map_get hx24) fun p28 q29 hq30 => ?_
        refine .opp (P.ixi (i := i14) .g0 rfl .g2 hq30 runUnderlying24 sizeOf40) rfl ?_
        refine .op (V.ldx0 (u := Ag (history_Line.cs e17)) .t0 hq30 Mm.m0 (map_get hx24) (.agg isAgg40 sizeOf40 rfl rfl)) rfl ?_
        refine .opx (X.alc (cs := (history_Line.cs ⟨0, 0, ⟨0, 0, 0, 0⟩, ⟨0, 0, 0, 0⟩⟩)) zeroValue40 rfl) rfl fun b31 => ?_
        refine .opg (G.str .t1 .g0 .k0 (.mk (cs' := (history_Line.cs e17)) sizeOf40 rfl rfl rfl rfl)) rfl fun _ _ => ?_
        refine .nil ?_
        refine .then ?_
        obtain ⟨hb34, hc20⟩ := grd_eq hc20
        obtain ⟨hb37, hc20⟩ := grd_eq hc20
        refine .dcut (γ := Value × Value × Value × Value) (φ := fun _ => True) (E1 := fun x_ => [(11, x_.2.2.2), (10, x_.2.1), (44, N ((i14 : Int))), (43, N ((r11.length : Int))), (42, u13), (8, pt b1 0)]) (L1 := fun x_ => [lst 27 4 x_.2.2.2 (((s15.1 ++ ([e17.Out] : List api_Wide))).map api_Wide.cs), lst 27 4 x_.2.2.1 [(api_Wide.cs e17.Out)], lst 27 4 x_.2.1 (((s15.2 ++ ([e17.In] : List api_Wide))).map api_Wide.cs), lst 27 4 x_.1 [(api_Wide.cs e17.In)], blk b31 40 (history_Line.cs e17), blk b1 27 (api_Wide.cs ⟨0, 0, 0, 0⟩)]) (R1 := fun x_ => [rows 10 u13 (r11.map history_Line.cs), rows 27 v00 (a0.map api_Event.cs)]) ?_ (fun x_ _ => ?_)
        · refine .drawl [blk b31 40 (history_Line.cs e17), blk b1 27 (api_Wide.cs ⟨0, 0, 0, 0⟩)] [rows 10 u13 (r11.map history_Line.cs), rows 27 v00 (a0.map api_Event.cs)] (Ls.of (.cons .k0 (.cons .k0 .nil))) (Rs.cons Mm.m0 (Rs.cons Mm.m1 Rs.nil)) 12 (.on 0 .pu (.on 1 .pu (.on 5 .pu (.on 6 .pu (.on 2 .ld (.on 7 .ld (.fk 3 8 (.fk 4 8 (.on 8 .go (.on 9 .go (.on 10 .go (.on 11 .go .nl)))) (.on 4 .go (.on 9 .go (.on 10 .go (.on 11 .go .nl))))) (.on 3 .go (.on 4 .go (.on 9 .go (.on 10 .go (.on 11 .go .nl)))))))))))) follows_mixed (.thn (.inb (.thn (.thn (.inb (.thn .body)))))) (by kernel_rfl) ?_
          refine .dpu rfl (.n rfl) (P.mov .g5) rfl rfl ?_
          refine .dpu rfl (.n rfl) (P.fa .g1 fa_40_2 rfl) rfl rfl ?_
          refine .dpu rfl (.n rfl) (P.mov .g6) rfl rfl ?_
          refine .dpu rfl (.n rfl) (P.fa .t3 fa_40_3 rfl) rfl rfl ?_
          refine .dld rfl (.n rfl) (V.ld (v := Ag (api_Wide.cs e17.In)) .t2 .k0 (.agg isAgg27 sizeOf27 rfl rfl)) (fun _ h => (h.imp (Ls.of (.cons .k0 (.cons .k0 .nil)))).ro (Rs.cons Mm.m0 (Rs.cons Mm.m1 Rs.nil))) rfl rfl ?_
          refine .dld rfl (.n rfl) (V.ld (v := Ag (api_Wide.cs e17.Out)) .t1 .k0 (.agg isAgg27 sizeOf27 rfl rfl)) (fun _ h => (h.imp (Ls.of (.cons .k0 (.cons .k0 .nil)))).ro (Rs.cons Mm.m0 (Rs.cons Mm.m1 Rs.nil))) rfl rfl ?_
          refine .dfk ?_ ?_
          · refine .dgo rfl (.n rfl) (G.bsl (cs := (api_Wide.cs e17.In)) .t1 runUnderlying135 sizeOf27 zeroValue27 rfl rfl rfl rfl rfl) (.inr fun _ _ _ h => (h.imp (Ls.of (.cons .k1 (.cons .k1 .nil)))).ro (Rs.cons Mm.m0 (Rs.cons Mm.m1 Rs.nil))) fun u32 _ => ?_
            refine .dfk ?_ ?_
            · refine .dgo rfl (.n rfl) (G.app (by_ := 32) .t3 .t0 .k4 (.inr (.inr ⟨_, Mm.m0⟩)) runUnderlying135 runUnderlying135 sizeOf27 typeInfo27 rfl rfl zeroValue27 rfl rfl (by simpa using hb34) rfl) (.inr fun _ _ _ h => (h.imp (Ls.of (.cons .k2 (.cons .k2 .nil)))).ro (Rs.cons Mm.m0 (Rs.cons Mm.m1 Rs.nil))) fun u33 _ => ?_
              refine .conseq .k0 (q := lst 27 4 u33 (((s15.2 ++ ([e17.In] : List api_Wide))).map api_Wide.cs)) (fun _ hh => by simpa [List.map_append] using hh) ?_
              refine .dgo rfl (.n rfl) (G.bsl (cs := (api_Wide.cs e17.Out)) .t1 runUnderlying135 sizeOf27 zeroValue27 rfl rfl rfl rfl rfl) (.inr fun _ _ _ h => (h.imp (Ls.of (.cons .k3 (.cons .k3 .nil)))).ro (Rs.cons Mm.m0 (Rs.cons Mm.m1 Rs.nil))) fun u35 _ => ?_
              refine .dgo rfl (.n rfl) (G.app (by_ := 32) .t2 .t0 .k5 (.inr (.inr ⟨_, Mm.m0⟩)) runUnderlying135 runUnderlying135 sizeOf27 typeInfo27 rfl rfl zeroValue27 rfl rfl (by simpa using hb37) rfl) (.inr fun _ _ _ h => (h.imp (Ls.of (.cons .k4 (.cons .k4 .nil)))).ro (Rs.cons Mm.m0 (Rs.cons Mm.m1 Rs.nil))) fun u36 _ => ?_
              refine .conseq .k0 (q := lst 27 4 u36 (((s15.1 ++ ([e17.Out] : List api_Wide))).map api_Wide.cs)) (fun _ hh => by simpa [List.map_append] using hh) ?_
              refine .drop .k6 ?_
              refine .dgo rfl (.n rfl) (OpV.g (OpP.toV (P.asg .t1)) rfl) (.inr fun _ _ _ h => (h.imp (Ls.of (.cons .k4 (.cons .k4 .nil)))).ro (Rs.cons Mm.m0 (Rs.cons Mm.m1 Rs.nil))) fun _ _ => ?_
              refine .drop .k5 ?_
              refine .dgo rfl (.n rfl) (OpV.g (OpP.toV (P.asg .t1)) rfl) (.inr fun _ _ _ h => (h.imp (Ls.of (.cons .k4 (.cons .k4 .nil)))).ro (Rs.cons Mm.m0 (Rs.cons Mm.m1 Rs.nil))) fun _ _ => ?_
              refine .dnil ?_
              exact .dst ⟨u32, u33, u35, u36⟩ trivial (.cons Mm.m0 (.cons Mm.m1 (.cons Mm.m2 (.cons Mm.m3 (.cons Mm.m4 (.cons Mm.m5 .nil)))))) (Ls.of (.cons .k0 (.cons .k0 (.cons .k0 (.cons .k0 (.cons .k0 (.cons .k0 .nil))))))) (.cons Mm.m0 (.cons Mm.m1 .nil))
            · refine .dgo rfl (.n rfl) (G.bsl (cs := (api_Wide.cs e17.Out)) .t1 runUnderlying135 sizeOf27 zeroValue27 rfl rfl rfl rfl rfl) (.inr fun _ _ _ h => (h.imp (Ls.of (.cons .k2 (.cons .k2 .nil)))).ro (Rs.cons Mm.m0 (Rs.cons Mm.m1 Rs.nil))) fun u35 _ => ?_
              refine .dgo rfl (.n rfl) (G.app (by_ := 32) .t3 .t1 .k5 (.inr (.inr ⟨_, Mm.m1⟩)) runUnderlying135 runUnderlying135 sizeOf27 typeInfo27 rfl rfl zeroValue27 rfl rfl (by simpa using hb34) rfl) (.inr fun _ _ _ h => (h.imp (Ls.of (.cons .k3 (.cons .k3 .nil)))).ro (Rs.cons Mm.m0 (Rs.cons Mm.m1 Rs.nil))) fun u33 _ => ?_
              refine .conseq .k0 (q := lst 27 4 u33 (((s15.2 ++ ([e17.In] : List api_Wide))).map api_Wide.cs)) (fun _ hh => by simpa [List.map_append] using hh) ?_
              refine .dgo rfl (.n rfl) (G.app (by_ := 32) .t2 .t1 .k5 (.inr (.inr ⟨_, Mm.m1⟩)) runUnderlying135 runUnderlying135 sizeOf27 typeInfo27 rfl rfl zeroValue27 rfl rfl (by simpa using hb37) rfl) (.inr fun _ _ _ h => (h.imp (Ls.of (.cons .k4 (.cons .k4 .nil)))).ro (Rs.cons Mm.m0 (Rs.cons Mm.m1 Rs.nil))) fun u36 _ => ?_
              refine .conseq .k0 (q := lst 27 4 u36 (((s15.1 ++ ([e17.Out] : List api_Wide))).map api_Wide.cs)) (fun _ hh => by simpa [List.map_append] using hh) ?_
              refine .drop .k6 ?_
              refine .dgo rfl (.n rfl) (OpV.g (OpP.toV (P.asg .t1)) rfl) (.inr fun _ _ _ h => (h.imp (Ls.of (.cons .k4 (.cons .k4 .nil)))).ro (Rs.cons Mm.m0 (Rs.cons Mm.m1 Rs.nil))) fun _ _ => ?_
              refine .drop .k5 ?_
              refine .dgo rfl (.n rfl) (OpV.g (OpP.toV (P.asg .t1)) rfl) (.inr fun _ _ _ h => (h.imp (Ls.of (.cons .k4 (.cons .k4 .nil)))).ro (Rs.cons Mm.m0 (Rs.cons Mm.m1 Rs.nil))) fun _ _ => ?_
              refine .dnil ?_
              exact .dst ⟨u32, u33, u35, u36⟩ trivial (.cons Mm.m0 (.cons Mm.m1 (.cons Mm.m2 (.cons Mm.m3 (.cons Mm.m4 (.cons Mm.m5 .nil)))))) (Ls.of (.cons .k0 (.cons .k1 (.cons .k0 (.cons .k0 (.cons .k0 (.cons .k0 .nil))))))) (.cons Mm.m0 (.cons Mm.m1 .nil))
          · refine .dgo rfl (.n rfl) (G.bsl (cs := (api_Wide.cs e17.Out)) .t0 runUnderlying135 sizeOf27 zeroValue27 rfl rfl rfl rfl rfl) (.inr fun _ _ _ h => (h.imp (Ls.of (.cons .k1 (.cons .k1 .nil)))).ro (Rs.cons Mm.m0 (Rs.cons Mm.m1 Rs.nil))) fun u35 _ => ?_
            refine .dgo rfl (.n rfl) (G.bsl (cs := (api_Wide.cs e17.In)) .t1 runUnderlying135 sizeOf27 zeroValue27 rfl rfl rfl rfl rfl) (.inr fun _ _ _ h => (h.imp (Ls.of (.cons .k2 (.cons .k2 .nil)))).ro (Rs.cons Mm.m0 (Rs.cons Mm.m1 Rs.nil))) fun u32 _ => ?_
            refine .dgo rfl (.n rfl) (G.app (by_ := 32) .t3 .t0 .k5 (.inr (.inr ⟨_, Mm.m0⟩)) runUnderlying135 runUnderlying135 sizeOf27 typeInfo27 rfl rfl zeroValue27 rfl rfl (by simpa using hb34) rfl) (.inr fun _ _ _ h => (h.imp (Ls.of (.cons .k3 (.cons .k3 .nil)))).ro (Rs.cons Mm.m0 (Rs.cons Mm.m1 Rs.nil))) fun u33 _ => ?_
            refine .conseq .k0 (q := lst 27 4 u33 (((s15.2 ++ ([e17.In] : List api_Wide))).map api_Wide.cs)) (fun _ hh => by simpa [List.map_append] using hh) ?_
            refine .dgo rfl (.n rfl) (G.app (by_ := 32) .t2 .t1 .k5 (.inr (.inr ⟨_, Mm.m2⟩)) runUnderlying135 runUnderlying135 sizeOf27 typeInfo27 rfl rfl zeroValue27 rfl rfl (by simpa using hb37) rfl) (.inr fun _ _ _ h => (h.imp (Ls.of (.cons .k4 (.cons .k4 .nil)))).ro (Rs.cons Mm.m0 (Rs.cons Mm.m1 Rs.nil))) fun u36 _ => ?_
            refine .conseq .k0 (q := lst 27 4 u36 (((s15.1 ++ ([e17.Out] : List api_Wide))).map api_Wide.cs)) (fun _ hh => by simpa [List.map_append] using hh) ?_
            refine .drop .k6 ?_
            refine .dgo rfl (.n rfl) (OpV.g (OpP.toV (P.asg .t1)) rfl) (.inr fun _ _ _ h => (h.imp (Ls.of (.cons .k4 (.cons .k4 .nil)))).ro (Rs.cons Mm.m0 (Rs.cons Mm.m1 Rs.nil))) fun _ _ => ?_
            refine .drop .k5 ?_
            refine .dgo rfl (.n rfl) (OpV.g (OpP.toV (P.asg .t1)) rfl) (.inr fun _ _ _ h => (h.imp (Ls.of (.cons .k4 (.cons .k4 .nil)))).ro (Rs.cons Mm.m0 (Rs.cons Mm.m1 Rs.nil))) fun _ _ => ?_
            refine .dnil ?_
            exact .dst ⟨u32, u33, u35, u36⟩ trivial (.cons Mm.m0 (.cons Mm.m1 (.cons Mm.m2 (.cons Mm.m3 (.cons Mm.m4 (.cons Mm.m5 .nil)))))) (Ls.of (.cons .k0 (.cons .k2 (.cons .k0 (.cons .k0 (.cons .k0 (.cons .k0 .nil))))))) (.cons Mm.m0 (.cons Mm.m1 .nil))
        · obtain ⟨u32, u33, u35, u36⟩ := x_
          refine .inn ?_
          refine .then ?_
          refine .reg ?_
          refine .opp (P.bin .g2 .k (.addc (inc_ok (lt_of_get hx24) hl25))) rfl ?_
          refine .drop .k3 ?_
          refine .opp (P.mov .t0) rfl ?_
          refine .nil ?_
          cases hc20
          exact .rdR (((s15.1 ++ ([e17.Out] : List api_Wide)), (s15.2 ++ ([e17.In] : List api_Wide)))) ⟨u36, u33⟩ hn21 (lt_of_get hx24) (.cons Mm.m0 (.cons Mm.m3 (.cons Mm.m4 (.cons Mm.m1 (.cons Mm.m2 (.cons Mm.m5 .nil)))))) (.of (.cons .k5 (.cons .k0 (.cons .k1 .nil)))) (.cons Mm.m0 (.cons Mm.m1 .nil))
      · obtain rfl := loopR_end (le_of_not c27) hr22
        have h := dn_on h
        refine .exit ?_
        refine .thx ?_
        refine .thx ?_
        refine .inb ?_
        refine .then ?_
        refine .seq ?_
        refine .reg ?_
        refine .opp (P.mov .t4) rfl ?_
        refine .frz .k2 ?_
        obtain ⟨r38, hr39, h⟩ := bnd_eq h
        refine .opg (G.call call72 (.cons .t0 .nil) (S_wide_Sum z16.2 s15.2 r38 hr39) .nil (.cons Mm.m0 .nil) (fun _ _ => rfl) (fun _ _ => rfl) rfl) rfl fun _ _ => ?_
        refine .opp (P.mov .t0) rfl ?_
        refine .opp (P.ext (v := Ag (api_Wide.cs r38.1)) .g0 rfl) rfl ?_
        refine .opp (P.ext (v := Bo r38.2) .t1 rfl) rfl ?_
        refine .opx (X.alc (cs := (api_Wide.cs ⟨0, 0, 0, 0⟩)) zeroValue27 rfl) rfl fun b40 => ?_
        refine .opg (G.str .t2 .g0 .k0 (.mk (cs' := (api_Wide.cs r38.1)) sizeOf27 rfl rfl rfl rfl)) rfl fun _ _ => ?_
        refine .opp (P.asg .t1) rfl ?_
        refine .nil ?_
        refine .then ?_
        refine .seq ?_
        refine .reg ?_
        refine .opp (P.mov .t5) rfl ?_
        refine .frz .k2 ?_
        obtain ⟨r41, hr42, h⟩ := bnd_eq h
        refine .opg (G.call call72 (.cons .t0 .nil) (S_wide_Sum z16.1 s15.1 r41 hr42) .nil (.cons Mm.m0 .nil) (fun _ _ => rfl) (fun _ _ => rfl) rfl) rfl fun _ _ => ?_
        refine .opp (P.mov .t0) rfl ?_
        refine .opp (P.ext (v := Ag (api_Wide.cs r41.1)) .g0 rfl) rfl ?_
        refine .opp (P.ext (v := Bo r41.2) .t1 rfl) rfl ?_
        refine .opx (X.alc (cs := (api_Wide.cs ⟨0, 0, 0, 0⟩)) zeroValue27 rfl) rfl fun b43 => ?_
        refine .opg (G.str .t2 .g0 .k0 (.mk (cs' := (api_Wide.cs r41.1)) sizeOf27 rfl rfl rfl rfl)) rfl fun _ _ => ?_
        refine .opp (P.asg .t1) rfl ?_
        refine .nil ?_
        refine .then ?_
        refine .seq ?_
        refine .reg ?_
        refine .op (V.ld (v := Ag (api_Wide.cs r38.1)) .t3 .k1 (.agg isAgg27 sizeOf27 rfl rfl)) rfl ?_
        refine .op (V.ld (v := Ag (api_Wide.cs r41.1)) .t2 .k0 (.agg isAgg27 sizeOf27 rfl rfl)) rfl ?_
        refine .opg (G.call call70 (.cons .t1 (.cons .t0 .nil)) (S_wide_Sub r38.1 r41.1 _ rfl) .nil .nil (fun _ _ => rfl) (fun _ _ => rfl) rfl) rfl fun _ _ => ?_
        refine .opp (P.mov .t0) rfl ?_
        refine .opp (P.ext (v := Ag (api_Wide.cs ((wide_Sub r38.1 r41.1).1))) .g0 rfl) rfl ?_
        refine .opp (P.ext (v := Bo ((wide_Sub r38.1 r41.1).2)) .t1 rfl) rfl ?_
        refine .opx (X.alc (cs := (api_Wide.cs ⟨0, 0, 0, 0⟩)) zeroValue27 rfl) rfl fun b44 => ?_
        refine .opg (G.str .t2 .g0 .k0 (.mk (cs' := (api_Wide.cs ((wide_Sub r38.1 r41.1).1))) sizeOf27 rfl rfl rfl rfl)) rfl fun _ _ => ?_
        refine .opp (P.asg .t1) rfl ?_
        refine .nil ?_
        refine .then ?_
        refine .seq ?_
        obtain ⟨y45, hj47, h⟩ := thn_eq h
        refine .cutx (γ := Unit) (E1 := fun z46 => [(84, Bo y45), (18, pt b44 0), (8, pt b1 0)]) (L1 := fun z46 => [blk b44 27 (api_Wide.cs ((wide_Sub r38.1 r41.1).1)), blk b1 27 (api_Wide.cs ⟨0, 0, 0, 0⟩)]) (R1 := fun z46 => [rows 27 v00 (a0.map api_Event.cs)]) ?_ (fun z46 => ?_)
        · clear h
          refine .reg ?_
          refine .opp (P.mov .t3) rfl ?_
          refine .opp (P.not .t0) rfl ?_
          refine .opp (P.mov .t0) rfl ?_
          refine .split .k0 (fun c48 => ?_) (fun c48 => ?_)
          · rw [if_pos c48] at hj47
            refine .gno rfl .g0 rfl rfl ?_
            refine .gno rfl .g0 rfl rfl ?_
            refine .opp (P.pickT .t0 .k) rfl ?_
            refine .opp (P.mov .t0) rfl ?_
            refine .gno rfl .g0 rfl rfl ?_
            refine .gno rfl .g0 rfl rfl ?_
            refine .opp (P.pickT .t0 .k) rfl ?_
            refine .nil ?_
            subst hj47
            exact .stj () (.cons Mm.m0 (.cons Mm.m2 (.cons Mm.m7 .nil))) (.of (.cons .k0 (.cons .k2 .nil))) (.cons Mm.m3 .nil)
          · rw [if_neg (ne_true_of_eq_false c48)] at hj47
            refine .gyes rfl .g0 ?_
            refine .opp (P.mov .t3) rfl ?_
            refine .gyes rfl .g1 ?_
            refine .opp (P.not .t0) rfl ?_
            refine .opp (P.pickF .t1 .t0) rfl ?_
            refine .opp (P.mov .t0) rfl ?_
            refine .split .k0 (fun c49 => ?_) (fun c49 => ?_)
            · rw [if_pos c49] at hj47
              refine .gno rfl .g0 rfl rfl ?_
              refine .gno rfl .g0 rfl rfl ?_
              refine .opp (P.pickT .t0 .k) rfl ?_
              refine .nil ?_
              subst hj47
              exact .stj () (.cons Mm.m0 (.cons Mm.m2 (.cons Mm.m6 .nil))) (.of (.cons .k0 (.cons .k2 .nil))) (.cons Mm.m3 .nil)
            · rw [if_neg (ne_true_of_eq_false c49)] at hj47
              refine .gyes rfl .g0 ?_
              refine .opp (P.mov .t1) rfl ?_
              refine .gyes rfl .g1 ?_
              refine .opp (P.not .t0) rfl ?_
              refine .opp (P.pickF .t1 .t0) rfl ?_
              refine .nil ?_
              subst hj47
              exact .stj () (.cons Mm.m0 (.cons Mm.m1 (.cons Mm.m5 .nil))) (.of (.cons .k0 (.cons .k2 .nil))) (.cons Mm.m3 .nil)
        · clear hj47
          refine .cond .t0 (fun c50 => ?_) (fun c50 => ?_)
          · rw [if_pos c50] at h
            refine .seq ?_
            refine .reg ?_
            refine .opp (P.bld (v := Ag (api_Wide.cs ⟨0, 0, 0, 0⟩)) .nil (bld_runA zeroValue27 runUnderlying27 sizeOf25 (by kernel_rfl))) rfl ?_
            refine .opg (G.str .t0 .g1 .k1 (.mk (cs' := (api_Wide.cs ⟨0, 0, 0, 0⟩)) sizeOf27 rfl rfl rfl rfl)) rfl fun _ _ => ?_
            refine .opp (P.asg .k) rfl ?_
            refine .nil ?_
            refine .then ?_
            refine .ret ?_
            refine .thr ?_
            cases h
            exact .finw () (.r2 rfl (.cell .g2 .k0 (.agg isAgg27 sizeOf27 rfl rfl)) (.tmp .g0)) trivial (Ls.of .nil) .nil
          · rw [if_neg (ne_true_of_eq_false c50)] at h
            refine .skip ?_
            refine .then ?_
            refine .seq ?_
            refine .reg ?_
            refine .op (V.ld (v := Ag (api_Wide.cs ((wide_Sub r38.1 r41.1).1))) .t0 .k0 (.agg isAgg27 sizeOf27 rfl rfl)) rfl ?_
            refine .opg (G.str .t0 .g0 .k1 (.mk (cs' := (api_Wide.cs ((wide_Sub r38.1 r41.1).1))) sizeOf27 rfl rfl rfl rfl)) rfl fun _ _ => ?_
            refine .opp (P.asg .k) rfl ?_
            refine .nil ?_
            refine .then ?_
            refine .ret ?_
            cases h
            exact .finw () (.r2 rfl (.cell .g1 .k0 (.agg isAgg27 sizeOf27 rfl rfl)) (.tmp .g0)) trivial (Ls.of .nil) .nil
attribute [irreducible] history_Balance
noncomputable def narrowslaw31_alive  : Option (Bool) :=
  Option.bind (history_Balance ([] : List api_Event) 0 3 1) fun r1 => thn (if r1.2 = true then (decide ((r1.1 : api_Wide) = (⟨1000, 0, 0, 0⟩ : api_Wide))) else false) fun (y4 : Bool) => some y4
set_option maxRecDepth 20000 in
set_option maxHeartbeats 1000000 in
theorem S_narrowslaw31_alive  (r : Bool) (h : narrowslaw31_alive  = some r) :
    SpecF Try.prog 15 [] [] [] (fun _ : Unit => True) (fun z => Bo r) (fun z M =>  M) (fun _ M => M) := by
  refine .of func15 rfl ntmps15 rfl fun w0 D0 G0 => ?_
  unfold narrowslaw31_alive at h
  refine .seq ?_
  refine .reg ?_
  refine .op0 (OpP.toV (P.asg .k)) rfl ?_
  refine .nil ?_
  refine .then ?_
  refine .seq ?_
  refine .reg ?_
  refine .rnil0 27 ?_
  obtain ⟨r1, hr2, h⟩ := bnd_eq h
  refine .opg (G.call call61 (.cons .k (.cons .k (.cons .k (.cons .k .nil)))) (S_history_Balance nilSl ([] : List api_Event) 0 3 1 r1 hr2) .nil (.cons Mm.m0 .nil) (fun _ _ => rfl) (fun _ _ => rfl) rfl) rfl fun _ _ => ?_
  refine .opp (P.mov .t0) rfl ?_
  refine .opp (P.ext (v := Ag (api_Wide.cs r1.1)) .g0 rfl) rfl ?_
  refine .opp (P.ext (v := Bo r1.2) .t1 rfl) rfl ?_
  refine .opx (X.alc (cs := (api_Wide.cs ⟨0, 0, 0, 0⟩)) zeroValue27 rfl) rfl fun b3 => ?_
  refine .opg (G.str .t2 .g0 .k0 (.mk (cs' := (api_Wide.cs r1.1)) sizeOf27 rfl rfl rfl rfl)) rfl fun _ _ => ?_
  refine .opp (P.asg .t1) rfl ?_
  refine .nil ?_
  refine .then ?_
  obtain ⟨y4, hj6, h⟩ := thn_eq h
  refine .cutx (γ := Unit) (E1 := fun z5 => [(0, Bo y4)]) (L1 := fun z5 => []) (R1 := fun z5 => []) ?_ (fun z5 => ?_)
  · clear h
    refine .reg ?_
    refine .opp (P.mov .t0) rfl ?_
    refine .opp (P.mov .t0) rfl ?_
    refine .split .k0 (fun c7 => ?_) (fun c7 => ?_)
    · rw [if_pos c7] at hj6
      refine .gyes rfl .g0 ?_
      refine .op (V.ld (v := Ag (api_Wide.cs r1.1)) .t1 .k0 (.agg isAgg27 sizeOf27 rfl rfl)) rfl ?_
      refine .gyes rfl .g1 ?_
      refine .opp (P.bld (v := Ag (api_Wide.cs ⟨1000, 0, 0, 0⟩)) (.cons .k .nil) (bld_runA zeroValue27 runUnderlying27 sizeOf25 (by kernel_rfl))) rfl ?_
      refine .gyes rfl .g2 ?_
      refine .opp (P.bin .t1 .t0 (eq_27_eql _ _)) rfl ?_
      refine .opp (P.pickT .t1 .t0) rfl ?_
      refine .opp (P.asg .t0) rfl ?_
      refine .nil ?_
      subst hj6
      exact .stj () (.cons Mm.m0 .nil) (.of .nil) .nil
    · rw [if_neg (ne_true_of_eq_false c7)] at hj6
      refine .gno rfl .g0 rfl rfl ?_
      refine .gno rfl .g0 rfl rfl ?_
      refine .gno rfl .g0 rfl rfl ?_
      refine .opp (P.pickF .t0 .k) rfl ?_
      refine .opp (P.asg .t0) rfl ?_
      refine .nil ?_
      subst hj6
      exact .stj () (.cons Mm.m0 .nil) (.of .nil) .nil
  · clear hj6
    refine .ret ?_
    cases h
    exact .finw () (.r1 rfl (.tmp .g0)) trivial (Ls.of .nil) .nil
attribute [irreducible] narrowslaw31_alive
noncomputable def narrowslaw31_moved (a0 : api_Event) (a1 : Int) (a2 : Int) (a3 : Int) : Option (api_Wide × api_Wide) :=
  thn (thn (if (decide (a0.Tx.From = a2)) = true then (decide (a3 = 0)) else false) fun (y10 : Bool) => if y10 = true then 1 else 0) fun (y7 : UInt64) => if (decide (a0.Code ≠ 0)) = true then (some (⟨0, 0, 0, 0⟩, ⟨y7, 0, 0, 0⟩)) else (thn (if (decide (a0.Tx.Asset = a3)) = true then (decide (a0.Tx.From = a2)) else false) fun (y16 : Bool) => Option.bind (thn (if (decide (a0.Tx.Kind = 1)) = true then true else (decide (a0.Tx.Kind = 2))) fun (y23 : Bool) => if y23 = true then (Option.bind (if y16 = true then (Option.bind (narrowsref01_Add (⟨y7, 0, 0, 0⟩ : api_Wide) a0.Tx.Amount) fun r32 => some r32.1) else (some ⟨y7, 0, 0, 0⟩)) fun (y28 : api_Wide) => thn (if (decide (a0.Tx.Kind = 1)) = true then (if (decide (a0.Tx.Inv.To = a2)) = true then (decide (a0.Tx.Asset = a3)) else false) else false) fun (y34 : Bool) => if y34 = true then (some (a0.Tx.Amount, y28)) else (some (⟨0, 0, 0, 0⟩, y28))) else (thn (if (decide (a0.Tx.Kind = 3)) = true then y16 else false) fun (y40 : Bool) => if y40 = true then (some (a0.Tx.Amount, ⟨y7, 0, 0, 0⟩)) else (thn (if (decide (a0.Tx.Kind = 4)) = true then (if (decide (a1 = 0)) = true then (if (decide (a0.Tx.Inv.User = a2)) = true then (decide (a0.Tx.Inv.Send = a3)) else false) else false) else false) fun (y45 : Bool) => if y45 = true then (Option.bind (narrowsref01_Add (⟨y7, 0, 0, 0⟩ : api_Wide) a0.Tx.Var.Amount) fun r52 => some (⟨0, 0, 0, 0⟩, r52.1)) else (thn (if (decide (a0.Tx.Kind = 5)) = true then (if (decide (a1 = 1)) = true then (decide (a0.Tx.Inv.Recv = a3)) else false) else false) fun (y54 : Bool) => if y54 = true then (Option.bind (narrowsref01_Sub a0.Tx.Var.Amount a0.Tx.Fee) fun r60 => thn (if (decide (a0.Tx.Inv.To = a2)) = true then r60.1 else ⟨0, 0, 0, 0⟩) fun (y63 : api_Wide) => if (decide (a0.Tx.From = a2)) = true then (Option.bind (narrowsref01_Add y63 a0.Tx.Fee) fun r68 => some (r68.1, ⟨y7, 0, 0, 0⟩)) else (some (y63, ⟨y7, 0, 0, 0⟩))) else (thn (if (decide (a0.Tx.Kind = 6)) = true then (if (decide (a1 = 0)) = true then (if (decide (a0.Tx.Inv.User = a2)) = true then (decide (a0.Tx.Inv.Send = a3)) else false) else false) else false) fun (y70 : Bool) => if y70 = true then (some (a0.Tx.Var.Amount, ⟨y7, 0, 0, 0⟩)) else (some (⟨0, 0, 0, 0⟩, ⟨y7, 0, 0, 0⟩))))))) fun (y20 : api_Wide × api_Wide) => some (y20.1, y20.2))
set_option maxRecDepth 20000 in
set_option maxHeartbeats 1000000 in
theorem S_narrowslaw31_moved (a0 : api_Event) (a1 : Int) (a2 : Int) (a3 : Int) (r : api_Wide × api_Wide) (h : narrowslaw31_moved a0 a1 a2 a3 = some r) :
    SpecF Try.prog 16 [Ag (api_Event.cs a0), N a1, N a2, N a3] [] [] (fun _ : Unit => True) (fun z => Tu [Ag (api_Wide.cs r.1), Ag (api_Wide.cs r.2)]) (fun z M =>  M) (fun _ M => M) := by
  refine .of func16 rfl ntmps16 rfl fun w0 D0 G0 => ?_
  unfold narrowslaw31_moved at h
  refine .seq ?_
  refine .reg ?_
  refine .opx (X.box (cs := (api_Event.cs a0)) .t0 rfl) rfl fun b1 => ?_
  refine .opx (X.alc (cs := (api_Wide.cs ⟨0, 0, 0, 0⟩)) zeroValue27 rfl) rfl fun b2 => ?_
  refine .opx (X.alc (cs := (api_Wide.cs ⟨0, 0, 0, 0⟩)) zeroValue27 rfl) rfl fun b3 => ?_
  refine .nil ?_
  refine .then ?_
  refine .seq ?_
  refine .reg ?_
  refine .opp (P.fa .g2 fa_38_2 rfl) rfl ?_
  refine .op (V.ld (v := Ag (api_Tx.cs a0.Tx)) .t0 .k2 (.agg isAgg36 sizeOf36 rfl rfl)) rfl ?_
  refine .opx (X.alc (cs := (api_Tx.cs ⟨0, 0, 0, 0, ⟨0, 0, 0, 0⟩, ⟨0, ⟨#[]⟩, 0, 0, 0, 0, ⟨#[]⟩⟩, ⟨⟨0, 0, 0, 0⟩, 0⟩, ⟨0, 0, 0, 0⟩, ⟨#[]⟩⟩)) zeroValue36 rfl) rfl fun b4 => ?_
  refine .opg (G.str .t1 .g0 .k0 (.mk (cs' := (api_Tx.cs a0.Tx)) sizeOf36 rfl rfl rfl rfl)) rfl fun _ _ => ?_
  refine .nil ?_
  refine .then ?_
  refine .seq ?_
  refine .reg ?_
  refine .opx (X.alc (cs := (api_Wide.cs ⟨0, 0, 0, 0⟩)) zeroValue27 rfl) rfl fun b5 => ?_
  refine .opx (X.alc (cs := (api_Wide.cs ⟨0, 0, 0, 0⟩)) zeroValue27 rfl) rfl fun b6 => ?_
  refine .nil ?_
  refine .then ?_
  obtain ⟨y7, hj9, h⟩ := thn_eq h
  refine .cutx (γ := Unit) (E1 := fun z8 => [(12, pt b6 0), (11, pt b5 0), (10, pt b4 0), (9, pt b3 0), (8, pt b2 0), (4, pt b1 0), (1, N a1), (2, N a2), (3, N a3)]) (L1 := fun z8 => [blk b6 27 (api_Wide.cs ⟨y7, 0, 0, 0⟩), blk b5 27 (api_Wide.cs ⟨0, 0, 0, 0⟩), blk b4 36 (api_Tx.cs a0.Tx), blk b3 27 (api_Wide.cs ⟨0, 0, 0, 0⟩), blk b2 27 (api_Wide.cs ⟨0, 0, 0, 0⟩), blk b1 38 (api_Event.cs a0)]) (R1 := fun z8 => []) ?_ (fun z8 => ?_)
  · clear h
    obtain ⟨y10, hj12, hj9⟩ := thn_eq hj9
    refine .cutx (γ := Unit) (E1 := fun z11 => [(25, Bo y10), (12, pt b6 0), (11, pt b5 0), (10, pt b4 0), (9, pt b3 0), (8, pt b2 0), (4, pt b1 0), (1, N a1), (2, N a2), (3, N a3)]) (L1 := fun z11 => [blk b6 27 (api_Wide.cs ⟨0, 0, 0, 0⟩), blk b5 27 (api_Wide.cs ⟨0, 0, 0, 0⟩), blk b4 36 (api_Tx.cs a0.Tx), blk b3 27 (api_Wide.cs ⟨0, 0, 0, 0⟩), blk b2 27 (api_Wide.cs ⟨0, 0, 0, 0⟩), blk b1 38 (api_Event.cs a0)]) (R1 := fun z11 => []) ?_ (fun z11 => ?_)
    · clear hj9
      refine .reg ?_
      refine .opp (P.fa .g2 fa_36_0 rfl) rfl ?_
      refine .op (V.ld (v := N a0.Tx.From) .t0 .k2 (.one isAgg3 rfl)) rfl ?_
      refine .opp (P.mov .g8) rfl ?_
      refine .opp (P.bin .t1 .t0 .eql) rfl ?_
      refine .opp (P.mov .t0) rfl ?_
      refine .split .k0 (fun c13 => ?_) (fun c13 => ?_)
      · rw [if_pos c13] at hj12
        refine .gyes rfl .g0 ?_
        refine .opp (P.mov .g9) rfl ?_
        refine .gyes rfl .g1 ?_
        refine .opp (P.bin .t0 .k .eql) rfl ?_
        refine .opp (P.pickT .t1 .t0) rfl ?_
        refine .nil ?_
        subst hj12
        exact .stj () (.cons Mm.m0 (.cons Mm.m1 (.cons Mm.m2 (.cons Mm.m3 (.cons Mm.m4 (.cons Mm.m5 (.cons Mm.m6 (.cons Mm.m7 (.cons Mm.m8 (.cons Mm.m9 .nil)))))))))) (.of (.cons .k0 (.cons .k0 (.cons .k0 (.cons .k0 (.cons .k0 (.cons .k0 .nil))))))) .nil
      · rw [if_neg (ne_true_of_eq_false c13)] at hj12
        refine .gno rfl .g0 rfl rfl ?_
        refine .gno rfl .g0 rfl rfl ?_
        refine .opp (P.pickF .t0 .k) rfl ?_
        refine .nil ?_
        subst hj12
        exact .stj () (.cons Mm.m0 (.cons Mm.m1 (.cons Mm.m2 (.cons Mm.m3 (.cons Mm.m4 (.cons Mm.m5 (.cons Mm.m6 (.cons Mm.m7 (.cons Mm.m8 (.cons Mm.m9 .nil)))))))))) (.of (.cons .k0 (.cons .k0 (.cons .k0 (.cons .k0 (.cons .k0 (.cons .k0 .nil))))))) .nil
    · clear hj12
      refine .cond .t0 (fun c14 => ?_) (fun c14 => ?_)
      · rw [if_pos c14] at hj9
        refine .reg ?_
        refine .opp (P.bld (v := Ag (api_Wide.cs ⟨1, 0, 0, 0⟩)) (.cons .k .nil) (bld_runA zeroValue27 runUnderlying27 sizeOf25 (by kernel_rfl))) rfl ?_
        refine .opg (G.str .t0 .g0 .k0 (.mk (cs' := (api_Wide.cs ⟨1, 0, 0, 0⟩)) sizeOf27 rfl rfl rfl rfl)) rfl fun _ _ => ?_
        refine .nil ?_
        subst hj9
        exact .stj () (.cons Mm.m0 (.cons Mm.m1 (.cons Mm.m2 (.cons Mm.m3 (.cons Mm.m4 (.cons Mm.m5 (.cons Mm.m6 (.cons Mm.m7 (.cons Mm.m8 .nil))))))))) (.of (.cons .k0 (.cons .k0 (.cons .k0 (.cons .k0 (.cons .k0 (.cons .k0 .nil))))))) .nil
      · rw [if_neg (ne_true_of_eq_false c14)] at hj9
        refine .skip ?_
        subst hj9
        exact .stj () (.cons Mm.m0 (.cons Mm.m1 (.cons Mm.m2 (.cons Mm.m3 (.cons Mm.m4 (.cons Mm.m5 (.cons Mm.m6 (.cons Mm.m7 (.cons Mm.m8 .nil))))))))) (.of (.cons .k0 (.cons .k0 (.cons .k0 (.cons .k0 (.cons .k0 (.cons .k0 .nil))))))) .nil
  · clear hj9
    refine .seq ?_
    refine .seq ?_
    refine .reg ?_
    refine .opp (P.fa .t5 fa_38_1 rfl) rfl ?_
    refine .op (V.ld (v := N a0.Code) .t0 .k5 (.one isAgg30 rfl)) rfl ?_
    refine .opp (P.bin .t0 .k .neq) rfl ?_
    refine .nil ?_
    refine .then ?_
    refine .cond .t0 (fun c15 => ?_) (fun c15 => ?_)
    · rw [if_pos c15] at h
      refine .seq ?_
      refine .drawl [blk b6 27 (api_Wide.cs ⟨y7, 0, 0, 0⟩), blk b5 27 (api_Wide.cs ⟨0, 0, 0, 0⟩), blk b4 36 (api_Tx.cs a0.Tx), blk b2 27 (api_Wide.cs ⟨0, 0, 0, 0⟩), blk b1 38 (api_Event.cs a0)] [] (Ls.of (.cons .k0 (.cons .k0 (.cons .k0 (.cons .k1 (.cons .k1 .nil)))))) Rs.nil 4 (.on 0 .ld (.on 1 .ld (.on 2 .go (.on 3 .go .nl)))) follows_mixed (.thn (.thn .body)) (by kernel_rfl) ?_
      refine .dld rfl (.n rfl) (V.ld (v := Ag (api_Wide.cs ⟨0, 0, 0, 0⟩)) .t1 .k1 (.agg isAgg27 sizeOf27 rfl rfl)) (fun _ h => (h.imp (Ls.of (.cons .k0 (.cons .k0 (.cons .k0 (.cons .k1 (.cons .k1 .nil))))))).ro Rs.nil) rfl rfl ?_
      refine .dld rfl (.n rfl) (V.ld (v := Ag (api_Wide.cs ⟨y7, 0, 0, 0⟩)) .t1 .k0 (.agg isAgg27 sizeOf27 rfl rfl)) (fun _ h => (h.imp (Ls.of (.cons .k0 (.cons .k0 (.cons .k0 (.cons .k1 (.cons .k1 .nil))))))).ro Rs.nil) rfl rfl ?_
      refine .dgo rfl (.n rfl) (G.str .t1 .g3 .k4 (.mk (cs' := (api_Wide.cs ⟨0, 0, 0, 0⟩)) sizeOf27 rfl rfl rfl rfl)) (.inr fun _ _ _ h => (h.imp (Ls.of (.cons .k1 (.cons .k1 (.cons .k1 (.cons .k0 (.cons .k1 .nil))))))).ro Rs.nil) fun _ _ => ?_
      refine .dgo rfl (.n rfl) (G.str .t0 .g1 .k4 (.mk (cs' := (api_Wide.cs ⟨y7, 0, 0, 0⟩)) sizeOf27 rfl rfl rfl rfl)) (.inr fun _ _ _ h => (h.imp (Ls.of (.cons .k2 (.cons .k2 (.cons .k2 (.cons .k1 (.cons .k1 .nil))))))).ro Rs.nil) fun _ _ => ?_
      refine .dnil ?_
      refine .then ?_
      refine .ret ?_
      refine .thr ?_
      cases h
      exact .finw () (.r2 rfl (.cell .g2 .k1 (.agg isAgg27 sizeOf27 rfl rfl)) (.cell .g1 .k0 (.agg isAgg27 sizeOf27 rfl rfl))) trivial (Ls.of .nil) .nil
    · rw [if_neg (ne_true_of_eq_false c15)] at h
      refine .skip ?_
      refine .then ?_
      obtain ⟨y16, hj18, h⟩ := thn_eq h
      refine .cutx (γ := Unit) (E1 := fun z17 => [(13, Bo y16), (12, pt b6 0), (11, pt b5 0), (10, pt b4 0), (9, pt b3 0), (8, pt b2 0), (1, N a1), (2, N a2), (3, N a3)]) (L1 := fun z17 => [blk b6 27 (api_Wide.cs ⟨y7, 0, 0, 0⟩), blk b5 27 (api_Wide.cs ⟨0, 0, 0, 0⟩), blk b4 36 (api_Tx.cs a0.Tx), blk b3 27 (api_Wide.cs ⟨0, 0, 0, 0⟩), blk b2 27 (api_Wide.cs ⟨0, 0, 0, 0⟩)]) (R1 := fun z17 => []) ?_ (fun z17 => ?_)
      · clear h
        refine .reg ?_
        refine .opp (P.fa .g2 fa_36_3 rfl) rfl ?_
        refine .op (V.ld (v := N a0.Tx.Asset) .t0 .k2 (.one isAgg3 rfl)) rfl ?_
        refine .opp (P.mov .g8) rfl ?_
        refine .opp (P.bin .t1 .t0 .eql) rfl ?_
        refine .opp (P.mov .t0) rfl ?_
        refine .split .k0 (fun c19 => ?_) (fun c19 => ?_)
        · rw [if_pos c19] at hj18
          refine .gyes rfl .g0 ?_
          refine .opp (P.fa .g3 fa_36_0 rfl) rfl ?_
          refine .gyes rfl .g1 ?_
          refine .op (V.ld (v := N a0.Tx.From) .t0 .k2 (.one isAgg3 rfl)) rfl ?_
          refine .gyes rfl .g1 ?_
          refine .opp (P.mov .g8) rfl ?_
          refine .gyes rfl .g2 ?_
          refine .opp (P.bin .t1 .t0 .eql) rfl ?_
          refine .opp (P.pickT .t1 .t0) rfl ?_
          refine .opp (P.asg .t0) rfl ?_
          refine .nil ?_
          subst hj18
          exact .stj () (.cons Mm.m0 (.cons Mm.m1 (.cons Mm.m2 (.cons Mm.m3 (.cons Mm.m4 (.cons Mm.m5 (.cons Mm.m6 (.cons Mm.m7 (.cons Mm.m8 .nil))))))))) (.of (.cons .k0 (.cons .k0 (.cons .k0 (.cons .k0 (.cons .k0 .nil)))))) .nil
        · rw [if_neg (ne_true_of_eq_false c19)] at hj18
          refine .gno rfl .g0 rfl rfl ?_
          refine .gno rfl .g0 rfl rfl ?_
          refine .gno rfl .g0 rfl rfl ?_
          refine .gno rfl .g0 rfl rfl ?_
          refine .opp (P.pickF .t0 .k) rfl ?_
          refine .opp (P.asg .t0) rfl ?_
          refine .nil ?_
          subst hj18
          exact .stj () (.cons Mm.m0 (.cons Mm.m1 (.cons Mm.m2 (.cons Mm.m3 (.cons Mm.m4 (.cons Mm.m5 (.cons Mm.m6 (.cons Mm.m7 (.cons Mm.m8 .nil))))))))) (.of (.cons .k0 (.cons .k0 (.cons .k0 (.cons .k0 (.cons .k0 .nil)))))) .nil
      · clear hj18
        obtain ⟨y20, hj22, h⟩ := bnd_eq h
        refine .cutx (γ := Unit) (E1 := fun z21 => [(12, pt b6 0), (11, pt b5 0), (9, pt b3 0), (8, pt b2 0)]) (L1 := fun z21 => [blk b5 27 (api_Wide.cs y20.1), blk b6 27 (api_Wide.cs y20.2), blk b3 27 (api_Wide.cs ⟨0, 0, 0, 0⟩), blk b2 27 (api_Wide.cs ⟨0, 0, 0, 0⟩)]) (R1 := fun z21 => []) ?_ (fun z21 => ?_)
        · clear h
          refine .block ?_
          obtain ⟨y23, hj25, hj22⟩ := thn_eq hj22
          refine .cutx (γ := Unit) (E1 := fun z24 => [(42, Bo y23), (13, Bo y16), (12, pt b6 0), (11, pt b5 0), (10, pt b4 0), (9, pt b3 0), (8, pt b2 0), (1, N a1), (2, N a2), (3, N a3)]) (L1 := fun z24 => [blk b6 27 (api_Wide.cs ⟨y7, 0, 0, 0⟩), blk b5 27 (api_Wide.cs ⟨0, 0, 0, 0⟩), blk b4 36 (api_Tx.cs a0.Tx), blk b3 27 (api_Wide.cs ⟨0, 0, 0, 0⟩), blk b2 27 (api_Wide.cs ⟨0, 0, 0, 0⟩)]) (R1 := fun z24 => []) ?_ (fun z24 => ?_)
          · clear hj22
            refine .reg ?_
            refine .opp (P.fa .g3 fa_36_2 rfl) rfl ?_
            refine .op (V.ld (v := N a0.Tx.Kind) .t0 .k2 (.one isAgg3 rfl)) rfl ?_
            refine .opp (P.bin .t0 .k .eql) rfl ?_
            refine .opp (P.mov .t0) rfl ?_
            refine .split .k0 (fun c26 => ?_) (fun c26 => ?_)
            · rw [if_pos c26] at hj25
              refine .gno rfl .g0 rfl rfl ?_
              refine .gno rfl .g0 rfl rfl ?_
              refine .gno rfl .g0 rfl rfl ?_
              refine .opp (P.pickT .t0 .k) rfl ?_
              refine .opp (P.asg .t0) rfl ?_
              refine .nil ?_
              subst hj25
              exact .stj () (.cons Mm.m0 (.cons Mm.m1 (.cons Mm.m2 (.cons Mm.m3 (.cons Mm.m4 (.cons Mm.m5 (.cons Mm.m6 (.cons Mm.m7 (.cons Mm.m8 (.cons Mm.m9 .nil)))))))))) (.of (.cons .k0 (.cons .k0 (.cons .k0 (.cons .k0 (.cons .k0 .nil)))))) .nil
            · rw [if_neg (ne_true_of_eq_false c26)] at hj25
              refine .gyes rfl .g0 ?_
              refine .opp (P.fa .g4 fa_36_2 rfl) rfl ?_
              refine .gyes rfl .g1 ?_
              refine .op (V.ld (v := N a0.Tx.Kind) .t0 .k2 (.one isAgg3 rfl)) rfl ?_
              refine .gyes rfl .g1 ?_
              refine .opp (P.bin .t0 .k .eql) rfl ?_
              refine .opp (P.pickF .t1 .t0) rfl ?_
              refine .opp (P.asg .t0) rfl ?_
              refine .nil ?_
              subst hj25
              exact .stj () (.cons Mm.m0 (.cons Mm.m1 (.cons Mm.m2 (.cons Mm.m3 (.cons Mm.m4 (.cons Mm.m5 (.cons Mm.m6 (.cons Mm.m7 (.cons Mm.m8 (.cons Mm.m9 .nil)))))))))) (.of (.cons .k0 (.cons .k0 (.cons .k0 (.cons .k0 (.cons .k0 .nil)))))) .nil
          · clear hj25
            refine .cond .t0 (fun c27 => ?_) (fun c27 => ?_)
            · rw [if_pos c27] at hj22
              obtain ⟨y28, hj30, hj22⟩ := bnd_eq hj22
              refine .cutx (γ := Unit) (E1 := fun z29 => [(12, pt b6 0), (11, pt b5 0), (10, pt b4 0), (9, pt b3 0), (8, pt b2 0), (2, N a2), (3, N a3)]) (L1 := fun z29 => [blk b6 27 (api_Wide.cs y28), blk b5 27 (api_Wide.cs ⟨0, 0, 0, 0⟩), blk b4 36 (api_Tx.cs a0.Tx), blk b3 27 (api_Wide.cs ⟨0, 0, 0, 0⟩), blk b2 27 (api_Wide.cs ⟨0, 0, 0, 0⟩)]) (R1 := fun z29 => []) ?_ (fun z29 => ?_)
              · clear hj22
                refine .seq ?_
                refine .reg ?_
                refine .opp (P.mov .t0) rfl ?_
                refine .nil ?_
                refine .then ?_
                refine .cond .t0 (fun c31 => ?_) (fun c31 => ?_)
                · rw [if_pos c31] at hj30
                  refine .reg ?_
                  refine .op (V.ld (v := Ag (api_Wide.cs ⟨y7, 0, 0, 0⟩)) .g0 .k0 (.agg isAgg27 sizeOf27 rfl rfl)) rfl ?_
                  refine .opp (P.fa .g3 fa_36_4 rfl) rfl ?_
                  refine .op (V.ld (v := Ag (api_Wide.cs a0.Tx.Amount)) .t0 .k2 (.agg isAgg27 sizeOf27 rfl rfl)) rfl ?_
                  obtain ⟨r32, hr33, hj30⟩ := bnd_eq hj30
                  refine .opg (G.call call23 (.cons .t1 (.cons .t0 .nil)) (S_narrowsref01_Add (⟨y7, 0, 0, 0⟩ : api_Wide) a0.Tx.Amount r32 hr33) .nil .nil (fun _ _ => rfl) (fun _ _ => rfl) rfl) rfl fun _ _ => ?_
                  refine .opp (P.mov .t0) rfl ?_
                  refine .opp (P.ext (v := Ag (api_Wide.cs r32.1)) .g0 rfl) rfl ?_
                  refine .op0 (OpP.toV (P.ext (v := Bo r32.2) .t1 rfl)) rfl ?_
                  refine .opg (G.str .t0 .g0 .k0 (.mk (cs' := (api_Wide.cs r32.1)) sizeOf27 rfl rfl rfl rfl)) rfl fun _ _ => ?_
                  refine .nil ?_
                  cases hj30
                  exact .stj () (.cons Mm.m0 (.cons Mm.m1 (.cons Mm.m2 (.cons Mm.m3 (.cons Mm.m4 (.cons Mm.m6 (.cons Mm.m7 .nil))))))) (.of (.cons .k0 (.cons .k0 (.cons .k0 (.cons .k0 (.cons .k0 .nil)))))) .nil
                · rw [if_neg (ne_true_of_eq_false c31)] at hj30
                  refine .skip ?_
                  cases hj30
                  exact .stj () (.cons Mm.m0 (.cons Mm.m1 (.cons Mm.m2 (.cons Mm.m3 (.cons Mm.m4 (.cons Mm.m6 (.cons Mm.m7 .nil))))))) (.of (.cons .k0 (.cons .k0 (.cons .k0 (.cons .k0 (.cons .k0 .nil)))))) .nil
              · clear hj30
                obtain ⟨y34, hj36, hj22⟩ := thn_eq hj22
                refine .cutx (γ := Unit) (E1 := fun z35 => [(74, Bo y34), (12, pt b6 0), (11, pt b5 0), (10, pt b4 0), (9, pt b3 0), (8, pt b2 0)]) (L1 := fun z35 => [blk b6 27 (api_Wide.cs y28), blk b5 27 (api_Wide.cs ⟨0, 0, 0, 0⟩), blk b4 36 (api_Tx.cs a0.Tx), blk b3 27 (api_Wide.cs ⟨0, 0, 0, 0⟩), blk b2 27 (api_Wide.cs ⟨0, 0, 0, 0⟩)]) (R1 := fun z35 => []) ?_ (fun z35 => ?_)
                · clear hj22
                  refine .reg ?_
                  refine .opp (P.fa .g2 fa_36_2 rfl) rfl ?_
                  refine .op (V.ld (v := N a0.Tx.Kind) .t0 .k2 (.one isAgg3 rfl)) rfl ?_
                  refine .opp (P.bin .t0 .k .eql) rfl ?_
                  refine .opp (P.mov .t0) rfl ?_
                  refine .split .k0 (fun c37 => ?_) (fun c37 => ?_)
                  · rw [if_pos c37] at hj36
                    refine .gyes rfl .g0 ?_
                    refine .opp (P.fa .g3 fa_36_5 rfl) rfl ?_
                    refine .gyes rfl .g1 ?_
                    refine .opp (P.fa .t0 fa_32_5 rfl) rfl ?_
                    refine .gyes rfl .g1 ?_
                    refine .op (V.ld (v := N a0.Tx.Inv.To) .t0 .k2 (.one isAgg3 rfl)) rfl ?_
                    refine .gyes rfl .g1 ?_
                    refine .opp (P.mov .t7) rfl ?_
                    refine .gyes rfl .g2 ?_
                    refine .opp (P.bin .t1 .t0 .eql) rfl ?_
                    refine .opp (P.pickT .t1 .t0) rfl ?_
                    refine .opp (P.mov .t0) rfl ?_
                    refine .split .k0 (fun c38 => ?_) (fun c38 => ?_)
                    · rw [if_pos c38] at hj36
                      refine .gyes rfl .g0 ?_
                      refine .opp (P.fa .g3 fa_36_3 rfl) rfl ?_
                      refine .gyes rfl .g1 ?_
                      refine .op (V.ld (v := N a0.Tx.Asset) .t0 .k2 (.one isAgg3 rfl)) rfl ?_
                      refine .gyes rfl .g1 ?_
                      refine .opp (P.mov .t7) rfl ?_
                      refine .gyes rfl .g2 ?_
                      refine .opp (P.bin .t1 .t0 .eql) rfl ?_
                      refine .opp (P.pickT .t1 .t0) rfl ?_
                      refine .nil ?_
                      subst hj36
                      exact .stj () (.cons Mm.m0 (.cons Mm.m1 (.cons Mm.m2 (.cons Mm.m3 (.cons Mm.m4 (.cons Mm.m5 .nil)))))) (.of (.cons .k0 (.cons .k0 (.cons .k0 (.cons .k0 (.cons .k0 .nil)))))) .nil
                    · rw [if_neg (ne_true_of_eq_false c38)] at hj36
                      refine .gno rfl .g0 rfl rfl ?_
                      refine .gno rfl .g0 rfl rfl ?_
                      refine .gno rfl .g0 rfl rfl ?_
                      refine .gno rfl .g0 rfl rfl ?_
                      refine .opp (P.pickF .t0 .k) rfl ?_
                      refine .nil ?_
                      subst hj36
                      exact .stj () (.cons Mm.m0 (.cons Mm.m1 (.cons Mm.m2 (.cons Mm.m3 (.cons Mm.m4 (.cons Mm.m5 .nil)))))) (.of (.cons .k0 (.cons .k0 (.cons .k0 (.cons .k0 (.cons .k0 .nil)))))) .nil
                  · rw [if_neg (ne_true_of_eq_false c37)] at hj36
                    refine .gno rfl .g0 rfl rfl ?_
                    refine .gno rfl .g0 rfl rfl ?_
                    refine .gno rfl .g0 rfl rfl ?_
                    refine .gno rfl .g0 rfl rfl ?_
                    refine .gno rfl .g0 rfl rfl ?_
                    refine .opp (P.pickF .t0 .k) rfl ?_
                    refine .opp (P.mov .t0) rfl ?_
                    refine .gno rfl .g0 rfl rfl ?_
                    refine .gno rfl .g0 rfl rfl ?_
                    refine .gno rfl .g0 rfl rfl ?_
                    refine .gno rfl .g0 rfl rfl ?_
                    refine .opp (P.pickF .t0 .k) rfl ?_
                    refine .nil ?_
                    subst hj36
                    exact .stj () (.cons Mm.m0 (.cons Mm.m1 (.cons Mm.m2 (.cons Mm.m3 (.cons Mm.m4 (.cons Mm.m5 .nil)))))) (.of (.cons .k0 (.cons .k0 (.cons .k0 (.cons .k0 (.cons .k0 .nil)))))) .nil
                · clear hj36
                  refine .cond .t0 (fun c39 => ?_) (fun c39 => ?_)
                  · rw [if_pos c39] at hj22
                    refine .reg ?_
                    refine .opp (P.fa .t2 fa_36_4 rfl) rfl ?_
                    refine .op (V.ld (v := Ag (api_Wide.cs a0.Tx.Amount)) .t0 .k2 (.agg isAgg27 sizeOf27 rfl rfl)) rfl ?_
                    refine .opg (G.str .t0 .g1 .k1 (.mk (cs' := (api_Wide.cs a0.Tx.Amount)) sizeOf27 rfl rfl rfl rfl)) rfl fun _ _ => ?_
                    refine .nil ?_
                    refine .inn ?_
                    cases hj22
                    exact .stj () (.cons Mm.m0 (.cons Mm.m1 (.cons Mm.m2 (.cons Mm.m3 .nil)))) (.of (.cons .k0 (.cons .k0 (.cons .k1 (.cons .k1 .nil))))) .nil
                  · rw [if_neg (ne_true_of_eq_false c39)] at hj22
                    refine .skip ?_
                    refine .inn ?_
                    cases hj22
                    exact .stj () (.cons Mm.m0 (.cons Mm.m1 (.cons Mm.m3 (.cons Mm.m4 .nil)))) (.of (.cons .k1 (.cons .k0 (.cons .k1 (.cons .k1 .nil))))) .nil
            · rw [if_neg (ne_true_of_eq_false c27)] at hj22
              obtain ⟨y40, hj42, hj22⟩ := thn_eq hj22
              refine .cutx (γ := Unit) (E1 := fun z41 => [(77, Bo y40), (12, pt b6 0), (11, pt b5 0), (10, pt b4 0), (9, pt b3 0), (8, pt b2 0), (1, N a1), (2, N a2), (3, N a3)]) (L1 := fun z41 => [blk b6 27 (api_Wide.cs ⟨y7, 0, 0, 0⟩), blk b5 27 (api_Wide.cs ⟨0, 0, 0, 0⟩), blk b4 36 (api_Tx.cs a0.Tx), blk b3 27 (api_Wide.cs ⟨0, 0, 0, 0⟩), blk b2 27 (api_Wide.cs ⟨0, 0, 0, 0⟩)]) (R1 := fun z41 => []) ?_ (fun z41 => ?_)
              · clear hj22
                refine .reg ?_
                refine .opp (P.fa .g3 fa_36_2 rfl) rfl ?_
                refine .op (V.ld (v := N a0.Tx.Kind) .t0 .k2 (.one isAgg3 rfl)) rfl ?_
                refine .opp (P.bin .t0 .k .eql) rfl ?_
                refine .opp (P.mov .t0) rfl ?_
                refine .split .k0 (fun c43 => ?_) (fun c43 => ?_)
                · rw [if_pos c43] at hj42
                  refine .gyes rfl .g0 ?_
                  refine .opp (P.mov .t1) rfl ?_
                  refine .opp (P.pickT .t1 .t0) rfl ?_
                  refine .opp (P.asg .t0) rfl ?_
                  refine .nil ?_
                  subst hj42
                  exact .stj () (.cons Mm.m0 (.cons Mm.m1 (.cons Mm.m2 (.cons Mm.m3 (.cons Mm.m4 (.cons Mm.m5 (.cons Mm.m6 (.cons Mm.m7 (.cons Mm.m8 .nil))))))))) (.of (.cons .k0 (.cons .k0 (.cons .k0 (.cons .k0 (.cons .k0 .nil)))))) .nil
                · rw [if_neg (ne_true_of_eq_false c43)] at hj42
                  refine .gno rfl .g0 rfl rfl ?_
                  refine .opp (P.pickF .t0 .k) rfl ?_
                  refine .opp (P.asg .t0) rfl ?_
                  refine .nil ?_
                  subst hj42
                  exact .stj () (.cons Mm.m0 (.cons Mm.m2 (.cons Mm.m3 (.cons Mm.m4 (.cons Mm.m5 (.cons Mm.m6 (.cons Mm.m7 (.cons Mm.m8 (.cons Mm.m9 .nil))))))))) (.of (.cons .k0 (.cons .k0 (.cons .k0 (.cons .k0 (.cons .k0 .nil)))))) .nil
              · clear hj42
                refine .cond .t0 (fun c44 => ?_) (fun c44 => ?_)
                · rw [if_pos c44] at hj22
                  refine .reg ?_
                  refine .opp (P.fa .t2 fa_36_4 rfl) rfl ?_
                  refine .op (V.ld (v := Ag (api_Wide.cs a0.Tx.Amount)) .t0 .k2 (.agg isAgg27 sizeOf27 rfl rfl)) rfl ?_
                  refine .opg (G.str .t0 .g1 .k1 (.mk (cs' := (api_Wide.cs a0.Tx.Amount)) sizeOf27 rfl rfl rfl rfl)) rfl fun _ _ => ?_
                  refine .nil ?_
                  refine .inn ?_
                  cases hj22
                  exact .stj () (.cons Mm.m0 (.cons Mm.m1 (.cons Mm.m2 (.cons Mm.m3 .nil)))) (.of (.cons .k0 (.cons .k0 (.cons .k1 (.cons .k1 .nil))))) .nil
                · rw [if_neg (ne_true_of_eq_false c44)] at hj22
                  obtain ⟨y45, hj47, hj22⟩ := thn_eq hj22
                  refine .cutx (γ := Unit) (E1 := fun z46 => [(86, Bo y45), (12, pt b6 0), (11, pt b5 0), (10, pt b4 0), (9, pt b3 0), (8, pt b2 0), (1, N a1), (2, N a2), (3, N a3)]) (L1 := fun z46 => [blk b6 27 (api_Wide.cs ⟨y7, 0, 0, 0⟩), blk b5 27 (api_Wide.cs ⟨0, 0, 0, 0⟩), blk b4 36 (api_Tx.cs a0.Tx), blk b3 27 (api_Wide.cs ⟨0, 0, 0, 0⟩), blk b2 27 (api_Wide.cs ⟨0, 0, 0, 0⟩)]) (R1 := fun z46 => []) ?_ (fun z46 => ?_)
                  · clear hj22
                    refine .reg ?_
                    refine .opp (P.fa .g2 fa_36_2 rfl) rfl ?_
                    refine .op (V.ld (v := N a0.Tx.Kind) .t0 .k2 (.one isAgg3 rfl)) rfl ?_
                    refine .opp (P.bin .t0 .k .eql) rfl ?_
                    refine .opp (P.mov .t0) rfl ?_
                    refine .split .k0 (fun c48 => ?_) (fun c48 => ?_)
                    · rw [if_pos c48] at hj47
                      refine .gyes rfl .g0 ?_
                      refine .opp (P.mov .g6) rfl ?_
                      refine .gyes rfl .g1 ?_
                      refine .opp (P.bin .t0 .k .eql) rfl ?_
                      refine .opp (P.pickT .t1 .t0) rfl ?_
                      refine .opp (P.mov .t0) rfl ?_
                      refine .split .k0 (fun c49 => ?_) (fun c49 => ?_)
                      · rw [if_pos c49] at hj47
                        refine .gyes rfl .g0 ?_
                        refine .opp (P.fa .g3 fa_36_5 rfl) rfl ?_
                        refine .gyes rfl .g1 ?_
                        refine .opp (P.fa .t0 fa_32_0 rfl) rfl ?_
                        refine .gyes rfl .g1 ?_
                        refine .op (V.ld (v := N a0.Tx.Inv.User) .t0 .k2 (.one isAgg3 rfl)) rfl ?_
                        refine .gyes rfl .g1 ?_
                        refine .opp (P.mov .g8) rfl ?_
                        refine .gyes rfl .g2 ?_
                        refine .opp (P.bin .t1 .t0 .eql) rfl ?_
                        refine .opp (P.pickT .t1 .t0) rfl ?_
                        refine .opp (P.mov .t0) rfl ?_
                        refine .split .k0 (fun c50 => ?_) (fun c50 => ?_)
                        · rw [if_pos c50] at hj47
                          refine .gyes rfl .g0 ?_
                          refine .opp (P.fa .g3 fa_36_5 rfl) rfl ?_
                          refine .gyes rfl .g1 ?_
                          refine .opp (P.fa .t0 fa_32_3 rfl) rfl ?_
                          refine .gyes rfl .g1 ?_
                          refine .op (V.ld (v := N a0.Tx.Inv.Send) .t0 .k2 (.one isAgg3 rfl)) rfl ?_
                          refine .gyes rfl .g1 ?_
                          refine .opp (P.mov .g9) rfl ?_
                          refine .gyes rfl .g2 ?_
                          refine .opp (P.bin .t1 .t0 .eql) rfl ?_
                          refine .opp (P.pickT .t1 .t0) rfl ?_
                          refine .opp (P.asg .t0) rfl ?_
                          refine .nil ?_
                          subst hj47
                          exact .stj () (.cons Mm.m0 (.cons Mm.m1 (.cons Mm.m2 (.cons Mm.m3 (.cons Mm.m4 (.cons Mm.m5 (.cons Mm.m6 (.cons Mm.m7 (.cons Mm.m8 .nil))))))))) (.of (.cons .k0 (.cons .k0 (.cons .k0 (.cons .k0 (.cons .k0 .nil)))))) .nil
                        · rw [if_neg (ne_true_of_eq_false c50)] at hj47
                          refine .gno rfl .g0 rfl rfl ?_
                          refine .gno rfl .g0 rfl rfl ?_
                          refine .gno rfl .g0 rfl rfl ?_
                          refine .gno rfl .g0 rfl rfl ?_
                          refine .gno rfl .g0 rfl rfl ?_
                          refine .opp (P.pickF .t0 .k) rfl ?_
                          refine .opp (P.asg .t0) rfl ?_
                          refine .nil ?_
                          subst hj47
                          exact .stj () (.cons Mm.m0 (.cons Mm.m1 (.cons Mm.m2 (.cons Mm.m3 (.cons Mm.m4 (.cons Mm.m5 (.cons Mm.m6 (.cons Mm.m7 (.cons Mm.m8 .nil))))))))) (.of (.cons .k0 (.cons .k0 (.cons .k0 (.cons .k0 (.cons .k0 .nil)))))) .nil
                      · rw [if_neg (ne_true_of_eq_false c49)] at hj47
                        refine .gno rfl .g0 rfl rfl ?_
                        refine .gno rfl .g0 rfl rfl ?_
                        refine .gno rfl .g0 rfl rfl ?_
                        refine .gno rfl .g0 rfl rfl ?_
                        refine .gno rfl .g0 rfl rfl ?_
                        refine .opp (P.pickF .t0 .k) rfl ?_
                        refine .opp (P.mov .t0) rfl ?_
                        refine .gno rfl .g0 rfl rfl ?_
                        refine .gno rfl .g0 rfl rfl ?_
                        refine .gno rfl .g0 rfl rfl ?_
                        refine .gno rfl .g0 rfl rfl ?_
                        refine .gno rfl .g0 rfl rfl ?_
                        refine .opp (P.pickF .t0 .k) rfl ?_
                        refine .opp (P.asg .t0) rfl ?_
                        refine .nil ?_
                        subst hj47
                        exact .stj () (.cons Mm.m0 (.cons Mm.m1 (.cons Mm.m2 (.cons Mm.m3 (.cons Mm.m4 (.cons Mm.m5 (.cons Mm.m6 (.cons Mm.m7 (.cons Mm.m8 .nil))))))))) (.of (.cons .k0 (.cons .k0 (.cons .k0 (.cons .k0 (.cons .k0 .nil)))))) .nil
                    · rw [if_neg (ne_true_of_eq_false c48)] at hj47
                      refine .gno rfl .g0 rfl rfl ?_
                      refine .gno rfl .g0 rfl rfl ?_
                      refine .opp (P.pickF .t0 .k) rfl ?_
                      refine .opp (P.mov .t0) rfl ?_
                      refine .gno rfl .g0 rfl rfl ?_
                      refine .gno rfl .g0 rfl rfl ?_
                      refine .gno rfl .g0 rfl rfl ?_
                      refine .gno rfl .g0 rfl rfl ?_
                      refine .gno rfl .g0 rfl rfl ?_
                      refine .opp (P.pickF .t0 .k) rfl ?_
                      refine .opp (P.mov .t0) rfl ?_
                      refine .gno rfl .g0 rfl rfl ?_
                      refine .gno rfl .g0 rfl rfl ?_
                      refine .gno rfl .g0 rfl rfl ?_
                      refine .gno rfl .g0 rfl rfl ?_
                      refine .gno rfl .g0 rfl rfl ?_
                      refine .opp (P.pickF .t0 .k) rfl ?_
                      refine .opp (P.asg .t0) rfl ?_
                      refine .nil ?_
                      subst hj47
                      exact .stj () (.cons Mm.m0 (.cons Mm.m1 (.cons Mm.m2 (.cons Mm.m3 (.cons Mm.m4 (.cons Mm.m5 (.cons Mm.m6 (.cons Mm.m7 (.cons Mm.m8 .nil))))))))) (.of (.cons .k0 (.cons .k0 (.cons .k0 (.cons .k0 (.cons .k0 .nil)))))) .nil
                  · clear hj47
                    refine .cond .t0 (fun c51 => ?_) (fun c51 => ?_)
                    · rw [if_pos c51] at hj22
                      refine .reg ?_
                      refine .op (V.ld (v := Ag (api_Wide.cs ⟨y7, 0, 0, 0⟩)) .g0 .k0 (.agg isAgg27 sizeOf27 rfl rfl)) rfl ?_
                      refine .opp (P.fa .t3 fa_36_6 rfl) rfl ?_
                      refine .opp (P.fa .t0 fa_34_0 rfl) rfl ?_
                      refine .op (V.ld (v := Ag (api_Wide.cs a0.Tx.Var.Amount)) .t0 .k2 (.agg isAgg27 sizeOf27 rfl rfl)) rfl ?_
                      obtain ⟨r52, hr53, hj22⟩ := bnd_eq hj22
                      refine .opg (G.call call23 (.cons .t1 (.cons .t0 .nil)) (S_narrowsref01_Add (⟨y7, 0, 0, 0⟩ : api_Wide) a0.Tx.Var.Amount r52 hr53) .nil .nil (fun _ _ => rfl) (fun _ _ => rfl) rfl) rfl fun _ _ => ?_
                      refine .opp (P.mov .t0) rfl ?_
                      refine .opp (P.ext (v := Ag (api_Wide.cs r52.1)) .g0 rfl) rfl ?_
                      refine .op0 (OpP.toV (P.ext (v := Bo r52.2) .t1 rfl)) rfl ?_
                      refine .opg (G.str .t0 .g0 .k0 (.mk (cs' := (api_Wide.cs r52.1)) sizeOf27 rfl rfl rfl rfl)) rfl fun _ _ => ?_
                      refine .nil ?_
                      refine .inn ?_
                      cases hj22
                      exact .stj () (.cons Mm.m0 (.cons Mm.m1 (.cons Mm.m2 (.cons Mm.m3 .nil)))) (.of (.cons .k1 (.cons .k0 (.cons .k1 (.cons .k1 .nil))))) .nil
                    · rw [if_neg (ne_true_of_eq_false c51)] at hj22
                      obtain ⟨y54, hj56, hj22⟩ := thn_eq hj22
                      refine .cutx (γ := Unit) (E1 := fun z55 => [(116, Bo y54), (12, pt b6 0), (11, pt b5 0), (10, pt b4 0), (9, pt b3 0), (8, pt b2 0), (1, N a1), (2, N a2), (3, N a3)]) (L1 := fun z55 => [blk b6 27 (api_Wide.cs ⟨y7, 0, 0, 0⟩), blk b5 27 (api_Wide.cs ⟨0, 0, 0, 0⟩), blk b4 36 (api_Tx.cs a0.Tx), blk b3 27 (api_Wide.cs ⟨0, 0, 0, 0⟩), blk b2 27 (api_Wide.cs ⟨0, 0, 0, 0⟩)]) (R1 := fun z55 => []) ?_ (fun z55 => ?_)
                      · clear hj22
                        refine .reg ?_
                        refine .opp (P.fa .g2 fa_36_2 rfl) rfl ?_
                        refine .op (V.ld (v := N a0.Tx.Kind) .t0 .k2 (.one isAgg3 rfl)) rfl ?_
                        refine .opp (P.bin .t0 .k .eql) rfl ?_
                        refine .opp (P.mov .t0) rfl ?_
                        refine .split .k0 (fun c57 => ?_) (fun c57 => ?_)
                        · rw [if_pos c57] at hj56
                          refine .gyes rfl .g0 ?_
                          refine .opp (P.mov .g6) rfl ?_
                          refine .gyes rfl .g1 ?_
                          refine .opp (P.bin .t0 .k .eql) rfl ?_
                          refine .opp (P.pickT .t1 .t0) rfl ?_
                          refine .opp (P.mov .t0) rfl ?_
                          refine .split .k0 (fun c58 => ?_) (fun c58 => ?_)
                          · rw [if_pos c58] at hj56
                            refine .gyes rfl .g0 ?_
                            refine .opp (P.fa .g3 fa_36_5 rfl) rfl ?_
                            refine .gyes rfl .g1 ?_
                            refine .opp (P.fa .t0 fa_32_4 rfl) rfl ?_
                            refine .gyes rfl .g1 ?_
                            refine .op (V.ld (v := N a0.Tx.Inv.Recv) .t0 .k2 (.one isAgg3 rfl)) rfl ?_
                            refine .gyes rfl .g1 ?_
                            refine .opp (P.mov .g9) rfl ?_
                            refine .gyes rfl .g2 ?_
                            refine .opp (P.bin .t1 .t0 .eql) rfl ?_
                            refine .opp (P.pickT .t1 .t0) rfl ?_
                            refine .opp (P.asg .t0) rfl ?_
                            refine .nil ?_
                            subst hj56
                            exact .stj () (.cons Mm.m0 (.cons Mm.m1 (.cons Mm.m2 (.cons Mm.m3 (.cons Mm.m4 (.cons Mm.m5 (.cons Mm.m6 (.cons Mm.m7 (.cons Mm.m8 .nil))))))))) (.of (.cons .k0 (.cons .k0 (.cons .k0 (.cons .k0 (.cons .k0 .nil)))))) .nil
                          · rw [if_neg (ne_true_of_eq_false c58)] at hj56
                            refine .gno rfl .g0 rfl rfl ?_
                            refine .gno rfl .g0 rfl rfl ?_
                            refine .gno rfl .g0 rfl rfl ?_
                            refine .gno rfl .g0 rfl rfl ?_
                            refine .gno rfl .g0 rfl rfl ?_
                            refine .opp (P.pickF .t0 .k) rfl ?_
                            refine .opp (P.asg .t0) rfl ?_
                            refine .nil ?_
                            subst hj56
                            exact .stj () (.cons Mm.m0 (.cons Mm.m1 (.cons Mm.m2 (.cons Mm.m3 (.cons Mm.m4 (.cons Mm.m5 (.cons Mm.m6 (.cons Mm.m7 (.cons Mm.m8 .nil))))))))) (.of (.cons .k0 (.cons .k0 (.cons .k0 (.cons .k0 (.cons .k0 .nil)))))) .nil
                        · rw [if_neg (ne_true_of_eq_false c57)] at hj56
                          refine .gno rfl .g0 rfl rfl ?_
                          refine .gno rfl .g0 rfl rfl ?_
                          refine .opp (P.pickF .t0 .k) rfl ?_
                          refine .opp (P.mov .t0) rfl ?_
                          refine .gno rfl .g0 rfl rfl ?_
                          refine .gno rfl .g0 rfl rfl ?_
                          refine .gno rfl .g0 rfl rfl ?_
                          refine .gno rfl .g0 rfl rfl ?_
                          refine .gno rfl .g0 rfl rfl ?_
                          refine .opp (P.pickF .t0 .k) rfl ?_
                          refine .opp (P.asg .t0) rfl ?_
                          refine .nil ?_
                          subst hj56
                          exact .stj () (.cons Mm.m0 (.cons Mm.m1 (.cons Mm.m2 (.cons Mm.m3 (.cons Mm.m4 (.cons Mm.m5 (.cons Mm.m6 (.cons Mm.m7 (.cons Mm.m8 .nil))))))))) (.of (.cons .k0 (.cons .k0 (.cons .k0 (.cons .k0 (.cons .k0 .nil)))))) .nil
                      · clear hj56
                        refine .cond .t0 (fun c59 => ?_) (fun c59 => ?_)
                        · rw [if_pos c59] at hj22
                          refine .seq ?_
                          refine .reg ?_
                          refine .opp (P.fa .g2 fa_36_6 rfl) rfl ?_
                          refine .opp (P.fa .t0 fa_34_0 rfl) rfl ?_
                          refine .op (V.ld (v := Ag (api_Wide.cs a0.Tx.Var.Amount)) .t0 .k2 (.agg isAgg27 sizeOf27 rfl rfl)) rfl ?_
                          refine .opp (P.fa .g3 fa_36_7 rfl) rfl ?_
                          refine .op (V.ld (v := Ag (api_Wide.cs a0.Tx.Fee)) .t0 .k2 (.agg isAgg27 sizeOf27 rfl rfl)) rfl ?_
                          obtain ⟨r60, hr61, hj22⟩ := bnd_eq hj22
                          refine .opg (G.call call25 (.cons .t1 (.cons .t0 .nil)) (S_narrowsref01_Sub a0.Tx.Var.Amount a0.Tx.Fee r60 hr61) .nil .nil (fun _ _ => rfl) (fun _ _ => rfl) rfl) rfl fun _ _ => ?_
                          refine .opp (P.mov .t0) rfl ?_
                          refine .opp (P.ext (v := Ag (api_Wide.cs r60.1)) .g0 rfl) rfl ?_
                          refine .opp (P.ext (v := Bo r60.2) .t1 rfl) rfl ?_
                          refine .opx (X.alc (cs := (api_Wide.cs ⟨0, 0, 0, 0⟩)) zeroValue27 rfl) rfl fun b62 => ?_
                          refine .opg (G.str .t2 .g0 .k0 (.mk (cs' := (api_Wide.cs r60.1)) sizeOf27 rfl rfl rfl rfl)) rfl fun _ _ => ?_
                          refine .op0 (OpP.toV (P.asg .t1)) rfl ?_
                          refine .nil ?_
                          refine .then ?_
                          obtain ⟨y63, hj65, hj22⟩ := thn_eq hj22
                          refine .cutx (γ := Unit) (E1 := fun z64 => [(12, pt b6 0), (11, pt b5 0), (10, pt b4 0), (9, pt b3 0), (8, pt b2 0), (2, N a2)]) (L1 := fun z64 => [blk b5 27 (api_Wide.cs y63), blk b6 27 (api_Wide.cs ⟨y7, 0, 0, 0⟩), blk b4 36 (api_Tx.cs a0.Tx), blk b3 27 (api_Wide.cs ⟨0, 0, 0, 0⟩), blk b2 27 (api_Wide.cs ⟨0, 0, 0, 0⟩)]) (R1 := fun z64 => []) ?_ (fun z64 => ?_)
                          · clear hj22
                            refine .seq ?_
                            refine .reg ?_
                            refine .opp (P.fa .g3 fa_36_5 rfl) rfl ?_
                            refine .opp (P.fa .t0 fa_32_5 rfl) rfl ?_
                            refine .op (V.ld (v := N a0.Tx.Inv.To) .t0 .k3 (.one isAgg3 rfl)) rfl ?_
                            refine .opp (P.mov .g8) rfl ?_
                            refine .opp (P.bin .t1 .t0 .eql) rfl ?_
                            refine .nil ?_
                            refine .then ?_
                            refine .cond .t0 (fun c66 => ?_) (fun c66 => ?_)
                            · rw [if_pos c66] at hj65
                              refine .reg ?_
                              refine .op (V.ld (v := Ag (api_Wide.cs r60.1)) .t0 .k0 (.agg isAgg27 sizeOf27 rfl rfl)) rfl ?_
                              refine .opg (G.str .t0 .g1 .k2 (.mk (cs' := (api_Wide.cs r60.1)) sizeOf27 rfl rfl rfl rfl)) rfl fun _ _ => ?_
                              refine .nil ?_
                              subst hj65
                              exact .stj () (.cons Mm.m0 (.cons Mm.m1 (.cons Mm.m2 (.cons Mm.m3 (.cons Mm.m4 (.cons Mm.m6 .nil)))))) (.of (.cons .k0 (.cons .k1 (.cons .k1 (.cons .k1 (.cons .k1 .nil)))))) .nil
                            · rw [if_neg (ne_true_of_eq_false c66)] at hj65
                              refine .skip ?_
                              subst hj65
                              exact .stj () (.cons Mm.m1 (.cons Mm.m2 (.cons Mm.m3 (.cons Mm.m4 (.cons Mm.m5 (.cons Mm.m7 .nil)))))) (.of (.cons .k2 (.cons .k1 (.cons .k1 (.cons .k1 (.cons .k1 .nil)))))) .nil
                          · clear hj65
                            refine .seq ?_
                            refine .reg ?_
                            refine .opp (P.fa .g2 fa_36_0 rfl) rfl ?_
                            refine .op (V.ld (v := N a0.Tx.From) .t0 .k2 (.one isAgg3 rfl)) rfl ?_
                            refine .opp (P.mov .t6) rfl ?_
                            refine .opp (P.bin .t1 .t0 .eql) rfl ?_
                            refine .nil ?_
                            refine .then ?_
                            refine .cond .t0 (fun c67 => ?_) (fun c67 => ?_)
                            · rw [if_pos c67] at hj22
                              refine .reg ?_
                              refine .op (V.ld (v := Ag (api_Wide.cs y63)) .g1 .k0 (.agg isAgg27 sizeOf27 rfl rfl)) rfl ?_
                              refine .opp (P.fa .t3 fa_36_7 rfl) rfl ?_
                              refine .op (V.ld (v := Ag (api_Wide.cs a0.Tx.Fee)) .t0 .k2 (.agg isAgg27 sizeOf27 rfl rfl)) rfl ?_
                              obtain ⟨r68, hr69, hj22⟩ := bnd_eq hj22
                              refine .opg (G.call call23 (.cons .t1 (.cons .t0 .nil)) (S_narrowsref01_Add y63 a0.Tx.Fee r68 hr69) .nil .nil (fun _ _ => rfl) (fun _ _ => rfl) rfl) rfl fun _ _ => ?_
                              refine .opp (P.mov .t0) rfl ?_
                              refine .opp (P.ext (v := Ag (api_Wide.cs r68.1)) .g0 rfl) rfl ?_
                              refine .op0 (OpP.toV (P.ext (v := Bo r68.2) .t1 rfl)) rfl ?_
                              refine .opg (G.str .t0 .g1 .k0 (.mk (cs' := (api_Wide.cs r68.1)) sizeOf27 rfl rfl rfl rfl)) rfl fun _ _ => ?_
                              refine .nil ?_
                              refine .inn ?_
                              cases hj22
                              exact .stj () (.cons Mm.m0 (.cons Mm.m1 (.cons Mm.m2 (.cons Mm.m3 .nil)))) (.of (.cons .k0 (.cons .k0 (.cons .k1 (.cons .k1 .nil))))) .nil
                            · rw [if_neg (ne_true_of_eq_false c67)] at hj22
                              refine .skip ?_
                              refine .inn ?_
                              cases hj22
                              exact .stj () (.cons Mm.m0 (.cons Mm.m1 (.cons Mm.m3 (.cons Mm.m4 .nil)))) (.of (.cons .k0 (.cons .k0 (.cons .k1 (.cons .k1 .nil))))) .nil
                        · rw [if_neg (ne_true_of_eq_false c59)] at hj22
                          obtain ⟨y70, hj72, hj22⟩ := thn_eq hj22
                          refine .cutx (γ := Unit) (E1 := fun z71 => [(157, Bo y70), (12, pt b6 0), (11, pt b5 0), (10, pt b4 0), (9, pt b3 0), (8, pt b2 0)]) (L1 := fun z71 => [blk b6 27 (api_Wide.cs ⟨y7, 0, 0, 0⟩), blk b5 27 (api_Wide.cs ⟨0, 0, 0, 0⟩), blk b4 36 (api_Tx.cs a0.Tx), blk b3 27 (api_Wide.cs ⟨0, 0, 0, 0⟩), blk b2 27 (api_Wide.cs ⟨0, 0, 0, 0⟩)]) (R1 := fun z71 => []) ?_ (fun z71 => ?_)
                          · clear hj22
                            refine .reg ?_
                            refine .opp (P.fa .g2 fa_36_2 rfl) rfl ?_
                            refine .op (V.ld (v := N a0.Tx.Kind) .t0 .k2 (.one isAgg3 rfl)) rfl ?_
                            refine .opp (P.bin .t0 .k .eql) rfl ?_
                            refine .opp (P.mov .t0) rfl ?_
                            refine .split .k0 (fun c73 => ?_) (fun c73 => ?_)
                            · rw [if_pos c73] at hj72
                              refine .gyes rfl .g0 ?_
                              refine .opp (P.mov .t6) rfl ?_
                              refine .gyes rfl .g1 ?_
                              refine .opp (P.bin .t0 .k .eql) rfl ?_
                              refine .opp (P.pickT .t1 .t0) rfl ?_
                              refine .opp (P.mov .t0) rfl ?_
                              refine .split .k0 (fun c74 => ?_) (fun c74 => ?_)
                              · rw [if_pos c74] at hj72
                                refine .gyes rfl .g0 ?_
                                refine .opp (P.fa .g3 fa_36_5 rfl) rfl ?_
                                refine .gyes rfl .g1 ?_
                                refine .opp (P.fa .t0 fa_32_0 rfl) rfl ?_
                                refine .gyes rfl .g1 ?_
                                refine .op (V.ld (v := N a0.Tx.Inv.User) .t0 .k2 (.one isAgg3 rfl)) rfl ?_
                                refine .gyes rfl .g1 ?_
                                refine .opp (P.mov .t7) rfl ?_
                                refine .gyes rfl .g2 ?_
                                refine .opp (P.bin .t1 .t0 .eql) rfl ?_
                                refine .opp (P.pickT .t1 .t0) rfl ?_
                                refine .opp (P.mov .t0) rfl ?_
                                refine .split .k0 (fun c75 => ?_) (fun c75 => ?_)
                                · rw [if_pos c75] at hj72
                                  refine .gyes rfl .g0 ?_
                                  refine .opp (P.fa .g3 fa_36_5 rfl) rfl ?_
                                  refine .gyes rfl .g1 ?_
                                  refine .opp (P.fa .t0 fa_32_3 rfl) rfl ?_
                                  refine .gyes rfl .g1 ?_
                                  refine .op (V.ld (v := N a0.Tx.Inv.Send) .t0 .k2 (.one isAgg3 rfl)) rfl ?_
                                  refine .gyes rfl .g1 ?_
                                  refine .opp (P.mov .t7) rfl ?_
                                  refine .gyes rfl .g2 ?_
                                  refine .opp (P.bin .t1 .t0 .eql) rfl ?_
                                  refine .opp (P.pickT .t1 .t0) rfl ?_
                                  refine .opp (P.asg .t0) rfl ?_
                                  refine .nil ?_
                                  subst hj72
                                  exact .stj () (.cons Mm.m0 (.cons Mm.m1 (.cons Mm.m2 (.cons Mm.m3 (.cons Mm.m4 (.cons Mm.m5 .nil)))))) (.of (.cons .k0 (.cons .k0 (.cons .k0 (.cons .k0 (.cons .k0 .nil)))))) .nil
                                · rw [if_neg (ne_true_of_eq_false c75)] at hj72
                                  refine .gno rfl .g0 rfl rfl ?_
                                  refine .gno rfl .g0 rfl rfl ?_
                                  refine .gno rfl .g0 rfl rfl ?_
                                  refine .gno rfl .g0 rfl rfl ?_
                                  refine .gno rfl .g0 rfl rfl ?_
                                  refine .opp (P.pickF .t0 .k) rfl ?_
                                  refine .opp (P.asg .t0) rfl ?_
                                  refine .nil ?_
                                  subst hj72
                                  exact .stj () (.cons Mm.m0 (.cons Mm.m1 (.cons Mm.m2 (.cons Mm.m3 (.cons Mm.m4 (.cons Mm.m5 .nil)))))) (.of (.cons .k0 (.cons .k0 (.cons .k0 (.cons .k0 (.cons .k0 .nil)))))) .nil
                              · rw [if_neg (ne_true_of_eq_false c74)] at hj72
                                refine .gno rfl .g0 rfl rfl ?_
                                refine .gno rfl .g0 rfl rfl ?_
                                refine .gno rfl .g0 rfl rfl ?_
                                refine .gno rfl .g0 rfl rfl ?_
                                refine .gno rfl .g0 rfl rfl ?_
                                refine .opp (P.pickF .t0 .k) rfl ?_
                                refine .opp (P.mov .t0) rfl ?_
                                refine .gno rfl .g0 rfl rfl ?_
                                refine .gno rfl .g0 rfl rfl ?_
                                refine .gno rfl .g0 rfl rfl ?_
                                refine .gno rfl .g0 rfl rfl ?_
                                refine .gno rfl .g0 rfl rfl ?_
                                refine .opp (P.pickF .t0 .k) rfl ?_
                                refine .opp (P.asg .t0) rfl ?_
                                refine .nil ?_
                                subst hj72
                                exact .stj () (.cons Mm.m0 (.cons Mm.m1 (.cons Mm.m2 (.cons Mm.m3 (.cons Mm.m4 (.cons Mm.m5 .nil)))))) (.of (.cons .k0 (.cons .k0 (.cons .k0 (.cons .k0 (.cons .k0 .nil)))))) .nil
                            · rw [if_neg (ne_true_of_eq_false c73)] at hj72
                              refine .gno rfl .g0 rfl rfl ?_
                              refine .gno rfl .g0 rfl rfl ?_
                              refine .opp (P.pickF .t0 .k) rfl ?_
                              refine .opp (P.mov .t0) rfl ?_
                              refine .gno rfl .g0 rfl rfl ?_
                              refine .gno rfl .g0 rfl rfl ?_
                              refine .gno rfl .g0 rfl rfl ?_
                              refine .gno rfl .g0 rfl rfl ?_
                              refine .gno rfl .g0 rfl rfl ?_
                              refine .opp (P.pickF .t0 .k) rfl ?_
                              refine .opp (P.mov .t0) rfl ?_
                              refine .gno rfl .g0 rfl rfl ?_
                              refine .gno rfl .g0 rfl rfl ?_
                              refine .gno rfl .g0 rfl rfl ?_
                              refine .gno rfl .g0 rfl rfl ?_
                              refine .gno rfl .g0 rfl rfl ?_
                              refine .opp (P.pickF .t0 .k) rfl ?_
                              refine .opp (P.asg .t0) rfl ?_
                              refine .nil ?_
                              subst hj72
                              exact .stj () (.cons Mm.m0 (.cons Mm.m1 (.cons Mm.m2 (.cons Mm.m3 (.cons Mm.m4 (.cons Mm.m5 .nil)))))) (.of (.cons .k0 (.cons .k0 (.cons .k0 (.cons .k0 (.cons .k0 .nil)))))) .nil
                          · clear hj72
                            refine .cond .t0 (fun c76 => ?_) (fun c76 => ?_)
                            · rw [if_pos c76] at hj22
                              refine .reg ?_
                              refine .opp (P.fa .t2 fa_36_6 rfl) rfl ?_
                              refine .opp (P.fa .t0 fa_34_0 rfl) rfl ?_
                              refine .op (V.ld (v := Ag (api_Wide.cs a0.Tx.Var.Amount)) .t0 .k2 (.agg isAgg27 sizeOf27 rfl rfl)) rfl ?_
                              refine .opg (G.str .t0 .g1 .k1 (.mk (cs' := (api_Wide.cs a0.Tx.Var.Amount)) sizeOf27 rfl rfl rfl rfl)) rfl fun _ _ => ?_
                              refine .nil ?_
                              refine .inn ?_
                              cases hj22
                              exact .stj () (.cons Mm.m0 (.cons Mm.m1 (.cons Mm.m2 (.cons Mm.m3 .nil)))) (.of (.cons .k0 (.cons .k0 (.cons .k1 (.cons .k1 .nil))))) .nil
                            · rw [if_neg (ne_true_of_eq_false c76)] at hj22
                              refine .skip ?_
                              refine .inn ?_
                              cases hj22
                              exact .stj () (.cons Mm.m0 (.cons Mm.m1 (.cons Mm.m3 (.cons Mm.m4 .nil)))) (.of (.cons .k1 (.cons .k0 (.cons .k1 (.cons .k1 .nil))))) .nil
        · clear hj22
          refine .seq ?_
          refine .drawl [blk b5 27 (api_Wide.cs y20.1), blk b6 27 (api_Wide.cs y20.2)] [] (Ls.of (.cons .k0 (.cons .k0 .nil))) Rs.nil 4 (.on 0 .ld (.on 1 .ld (.on 2 .go (.on 3 .go .nl)))) follows_mixed (.thn .body) (by kernel_rfl) ?_
          refine .dld rfl (.n rfl) (V.ld (v := Ag (api_Wide.cs y20.1)) .t1 .k0 (.agg isAgg27 sizeOf27 rfl rfl)) (fun _ h => (h.imp (Ls.of (.cons .k0 (.cons .k0 .nil)))).ro Rs.nil) rfl rfl ?_
          refine .dld rfl (.n rfl) (V.ld (v := Ag (api_Wide.cs y20.2)) .t1 .k1 (.agg isAgg27 sizeOf27 rfl rfl)) (fun _ h => (h.imp (Ls.of (.cons .k0 (.cons .k0 .nil)))).ro Rs.nil) rfl rfl ?_
          refine .dgo rfl (.n rfl) (G.str .t1 .g2 .k3 (.mk (cs' := (api_Wide.cs y20.1)) sizeOf27 rfl rfl rfl rfl)) (.inr fun _ _ _ h => (h.imp (Ls.of (.cons .k1 (.cons .k1 .nil)))).ro Rs.nil) fun _ _ => ?_
          refine .dgo rfl (.n rfl) (G.str .t0 .g0 .k3 (.mk (cs' := (api_Wide.cs y20.2)) sizeOf27 rfl rfl rfl rfl)) (.inr fun _ _ _ h => (h.imp (Ls.of (.cons .k2 (.cons .k2 .nil)))).ro Rs.nil) fun _ _ => ?_
          refine .dnil ?_
          refine .then ?_
          refine .ret ?_
          cases h
          exact .finw () (.r2 rfl (.cell .g1 .k1 (.agg isAgg27 sizeOf27 rfl rfl)) (.cell .g0 .k0 (.agg isAgg27 sizeOf27 rfl rfl))) trivial (Ls.of .nil) .nil
attribute [irreducible] narrowslaw31_moved
noncomputable def narrowslaw31_HistoryTells (a0 : List api_Event) (a1 : Int) (a2 : Int) (a3 : Int) : Option (Bool) :=
  Option.bind (narrowslaw31_alive) fun r1 => if (!r1) = true then (some false) else (Option.bind (loopW (fun (s4 : Int × (List history_Line)) => if (decide (s4.1 < ((a0.length : Int)))) = true then (Option.bind (Option.bind (at_ a0 s4.1) fun (x20 : api_Event) => Option.bind (narrowslaw31_moved x20 (bandK .i64 a1 1) a2 a3) fun r24 => thn (if (decide ((r24.1 : api_Wide) ≠ (⟨0, 0, 0, 0⟩ : api_Wide))) = true then true else (decide ((r24.2 : api_Wide) ≠ (⟨0, 0, 0, 0⟩ : api_Wide)))) fun (y28 : Bool) => if y28 = true then (Option.bind (at_ a0 s4.1) fun (x36 : api_Event) => Option.bind (at_ a0 s4.1) fun (x43 : api_Event) => grd ((s4.2.length + ([⟨x36.Time, x43.Tx.Kind, r24.1, r24.2⟩] : List history_Line).length) * 80 ≤ 140737488355328) <| some ((s4.2 ++ ([⟨x36.Time, x43.Tx.Kind, r24.1, r24.2⟩] : List history_Line)))) else (some s4.2)) fun (y14 : (List history_Line)) => some (.nx ((IntKind.i64.wrap (s4.1 + 1), y14)))) else (some (.br (s4.1, s4.2)))) (0, [])) fun o6 => Lo.on o6 fun (s4 : Int × (List history_Line)) => Option.bind (history_Of a0 a1 a2 a3) fun r52 => if (decide (((r52.length : Int)) ≠ ((s4.2.length : Int)))) = true then (some false) else (Option.bind (loopW (fun (s56 : Int) => if (decide (s56 < ((r52.length : Int)))) = true then (Option.bind (at_ r52 s56) fun (x69 : history_Line) => Option.bind (at_ s4.2 s56) fun (x76 : history_Line) => if (decide ((x69 : history_Line) ≠ (x76 : history_Line))) = true then (Option.map Ct.rt (some false)) else (some (.nx (IntKind.i64.wrap (s56 + 1))))) else (some (.br s56))) 0) fun o58 => Lo.on o58 fun (s56 : Int) => some true))
set_option maxRecDepth 20000 in
set_option maxHeartbeats 1000000 in
theorem S_narrowslaw31_HistoryTells (v00 : Value) (a0 : List api_Event) (a1 : Int) (a2 : Int) (a3 : Int) (r : Bool) (h : narrowslaw31_HistoryTells a0 a1 a2 a3 = some r) :
    SpecF Try.prog 3 [v00, N a1, N a2, N a3] [] [rows 27 v00 (a0.map api_Event.cs)] (fun _ : Unit => True) (fun z => Bo r) (fun z M =>  M) (fun _ M => M) := by
  refine .of func3 rfl ntmps3 rfl fun w0 D0 G0 => ?_
  unfold narrowslaw31_HistoryTells at h
  refine .seq ?_
  refine .reg ?_
  refine .op0 (OpP.toV (P.asg .k)) rfl ?_
  refine .nil ?_
  refine .then ?_
  refine .seq ?_
  refine .seq ?_
  refine .reg ?_
  obtain ⟨r1, hr2, h⟩ := bnd_eq h
  refine .opg (G.call call15 .nil (S_narrowslaw31_alive  r1 hr2) .nil .nil (fun _ _ => rfl) (fun _ _ => rfl) rfl) rfl fun _ _ => ?_
  refine .opp (P.not .t0) rfl ?_
  refine .nil ?_
  refine .then ?_
  refine .cond .t0 (fun c3 => ?_) (fun c3 => ?_)
  · rw [if_pos c3] at h
    refine .seq ?_
    refine .reg ?_
    refine .opp (P.asg .k) rfl ?_
    refine .nil ?_
    refine .then ?_
    refine .ret ?_
    refine .thr ?_
    cases h
    exact .finw () (.r1 rfl (.tmp .g0)) trivial (Ls.of .nil) .nil
  · rw [if_neg (ne_true_of_eq_false c3)] at h
    refine .skip ?_
    refine .then ?_
    refine .seq ?_
    refine .reg ?_
    refine .opp (P.asg .k) rfl ?_
    refine .nil ?_
    refine .then ?_
    refine .seq ?_
    refine .seq ?_
    refine .reg ?_
    refine .opp (P.asg .k) rfl ?_
    refine .nil ?_
    refine .then ?_
    refine .block ?_
    refine .lnil 40 10 ?_
    obtain ⟨o6, ho7, h⟩ := bnd_eq h
    refine .loopW (γ := Value) (fun (s4 : Int × (List history_Line)) z5 => [(10, N s4.1), (9, z5), (0, v00), (1, N a1), (2, N a2), (3, N a3)]) (fun (s4 : Int × (List history_Line)) z5 => [lst 40 10 z5 (s4.2.map history_Line.cs)]) (fun (s4 : Int × (List history_Line)) z5 => [rows 27 v00 (a0.map api_Event.cs)]) nilSl ho7 (.cons Mm.m0 (.cons Mm.m1 (.cons Mm.m2 (.cons Mm.m3 (.cons Mm.m4 (.cons Mm.m5 .nil)))))) (.of (.cons .k0 .nil)) (.cons Mm.m0 .nil) (fun n12 s4 z5 hr10 => ?_)
    obtain ⟨ct11, hc8, hn9⟩ := loopK_at hr10
    refine .seq ?_
    refine .seq ?_
    refine .reg ?_
    refine .opp (P.mov .g0) rfl ?_
    refine .opp (P.mov .g3) rfl ?_
    refine .op (V.lnr (n := a0.length) .t0 Mm.m0 map_len runUnderlying22) rfl ?_
    refine .opp (P.bin .t1 .t0 .lss) rfl ?_
    refine .nil ?_
    refine .then ?_
    refine .cond .t0 (fun c13 => ?_) (fun c13 => ?_)
    · rw [if_pos c13] at hc8
      refine .skip ?_
      refine .then ?_
      obtain ⟨y14, hj16, hc8⟩ := bnd_eq hc8
      refine .cutx (γ := Value) (E1 := fun z15 => [(9, z15), (10, N s4.1), (0, v00), (1, N a1), (2, N a2), (3, N a3)]) (L1 := fun z15 => [lst 40 10 z15 (y14.map history_Line.cs)]) (R1 := fun z15 => [rows 27 v00 (a0.map api_Event.cs)]) ?_ (fun z15 => ?_)
      · clear hc8
        refine .block ?_
        refine .seq ?_
        refine .reg ?_
        refine .opp (P.mov .g2) rfl ?_
        refine .opp (P.mov .g1) rfl ?_
        obtain ⟨x20, hx21, hj16⟩ := bnd_eq hj16
        obtain ⟨i22, hi23, hx21⟩ := at_eq hx21
        refine .ixq Mm.m0 (map_get hx21) fun p17 q18 hq19 => ?_
        refine .opp (P.ixi (i := i22) .t0 hi23 .t0 hq19 runUnderlying22 sizeOf38) rfl ?_
        refine .op (V.ldx0 (u := Ag (api_Event.cs x20)) .t0 hq19 Mm.m0 (map_get hx21) (.agg isAgg38 sizeOf38 rfl rfl)) rfl ?_
        refine .opp (P.mov .g4) rfl ?_
        refine .opp (P.bin .t0 .k .and) rfl ?_
        refine .opp (P.mov .g6) rfl ?_
        refine .opp (P.mov .g8) rfl ?_
        obtain ⟨r24, hr25, hj16⟩ := bnd_eq hj16
        refine .opg (G.call call16 (.cons .t3 (.cons .t2 (.cons .t1 (.cons .t0 .nil)))) (S_narrowslaw31_moved x20 (bandK .i64 a1 1) a2 a3 r24 hr25) .nil .nil (fun _ _ => rfl) (fun _ _ => rfl) rfl) rfl fun _ _ => ?_
        refine .opp (P.mov .t0) rfl ?_
        refine .opp (P.ext (v := Ag (api_Wide.cs r24.1)) .g0 rfl) rfl ?_
        refine .opp (P.ext (v := Ag (api_Wide.cs r24.2)) .t1 rfl) rfl ?_
        refine .opx (X.alc (cs := (api_Wide.cs ⟨0, 0, 0, 0⟩)) zeroValue27 rfl) rfl fun b26 => ?_
        refine .opx (X.alc (cs := (api_Wide.cs ⟨0, 0, 0, 0⟩)) zeroValue27 rfl) rfl fun b27 => ?_
        refine .opg (G.str .t3 .g1 .k1 (.mk (cs' := (api_Wide.cs r24.1)) sizeOf27 rfl rfl rfl rfl)) rfl fun _ _ => ?_
        refine .opg (G.str .t2 .g0 .k1 (.mk (cs' := (api_Wide.cs r24.2)) sizeOf27 rfl rfl rfl rfl)) rfl fun _ _ => ?_
        refine .nil ?_
        refine .then ?_
        obtain ⟨y28, hj30, hj16⟩ := thn_eq hj16
        refine .cutx (γ := Unit) (E1 := fun z29 => [(42, Bo y28), (12, pt b27 0), (11, pt b26 0), (10, N s4.1), (9, z5), (0, v00), (1, N a1), (2, N a2), (3, N a3)]) (L1 := fun z29 => [blk b27 27 (api_Wide.cs r24.2), blk b26 27 (api_Wide.cs r24.1), lst 40 10 z5 (s4.2.map history_Line.cs)]) (R1 := fun z29 => [rows 27 v00 (a0.map api_Event.cs)]) ?_ (fun z29 => ?_)
        · clear hj16
          refine .reg ?_
          refine .op (V.ld (v := Ag (api_Wide.cs r24.1)) .g1 .k1 (.agg isAgg27 sizeOf27 rfl rfl)) rfl ?_
          refine .opp (P.bld (v := Ag (api_Wide.cs ⟨0, 0, 0, 0⟩)) .nil (bld_runA zeroValue27 runUnderlying27 sizeOf25 (by kernel_rfl))) rfl ?_
          refine .opp (P.bin .t1 .t0 (eq_27_neq _ _)) rfl ?_
          refine .opp (P.mov .t0) rfl ?_
          refine .split .k0 (fun c31 => ?_) (fun c31 => ?_)
          · rw [if_pos c31] at hj30
            refine .gno rfl .g0 rfl rfl ?_
            refine .gno rfl .g0 rfl rfl ?_
            refine .gno rfl .g0 rfl rfl ?_
            refine .opp (P.pickT .t0 .k) rfl ?_
            refine .nil ?_
            subst hj30
            exact .stj () (.cons Mm.m0 (.cons Mm.m1 (.cons Mm.m2 (.cons Mm.m3 (.cons Mm.m4 (.cons Mm.m5 (.cons Mm.m6 (.cons Mm.m7 (.cons Mm.m8 .nil))))))))) (.of (.cons .k0 (.cons .k0 (.cons .k0 .nil)))) (.cons Mm.m0 .nil)
          · rw [if_neg (ne_true_of_eq_false c31)] at hj30
            refine .gyes rfl .g0 ?_
            refine .op (V.ld (v := Ag (api_Wide.cs r24.2)) .g1 .k0 (.agg isAgg27 sizeOf27 rfl rfl)) rfl ?_
            refine .gyes rfl .g1 ?_
            refine .opp (P.bld (v := Ag (api_Wide.cs ⟨0, 0, 0, 0⟩)) .nil (bld_runA zeroValue27 runUnderlying27 sizeOf25 (by kernel_rfl))) rfl ?_
            refine .gyes rfl .g2 ?_
            refine .opp (P.bin .g1 .g0 (eq_27_neq _ _)) rfl ?_
            refine .opp (P.pickF .t3 .g0) rfl ?_
            refine .nil ?_
            subst hj30
            exact .stj () (.cons Mm.m0 (.cons Mm.m4 (.cons Mm.m5 (.cons Mm.m6 (.cons Mm.m7 (.cons Mm.m8 (.cons Mm.m9 (.cons Mm.m10 (.cons Mm.m11 .nil))))))))) (.of (.cons .k0 (.cons .k0 (.cons .k0 .nil)))) (.cons Mm.m0 .nil)
        · clear hj30
          refine .cond .t0 (fun c32 => ?_) (fun c32 => ?_)
          · rw [if_pos c32] at hj16
            refine .drawl [blk b27 27 (api_Wide.cs r24.2), blk b26 27 (api_Wide.cs r24.1)] [rows 27 v00 (a0.map api_Event.cs)] (Ls.of (.cons .k0 (.cons .k0 .nil))) (Rs.cons Mm.m0 Rs.nil) 18 (.on 0 .pu (.on 1 .pu (.on 2 .pu (.on 3 .pu (.on 4 .pu (.on 6 .pu (.on 7 .pu (.on 8 .pu (.on 9 .pu (.on 10 .pu (.on 5 .ld (.on 11 .ld (.on 12 .ld (.on 13 .ld (.on 14 .pu (.on 15 .go (.on 16 .go (.on 17 .go .nl)))))))))))))))))) follows_mixed (.inb (.thn (.thn (.inb (.thn .body))))) (by kernel_rfl) ?_
            refine .dpu rfl (.n rfl) (P.mov .g3) rfl rfl ?_
            refine .dpu rfl (.n rfl) (P.mov .g5) rfl rfl ?_
            refine .dpu rfl (.n rfl) (P.mov .g4) rfl rfl ?_
            obtain ⟨x36, hx37, hj16⟩ := bnd_eq hj16
            obtain ⟨i38, hi39, hx37⟩ := at_eq hx37
            refine .ixq Mm.m0 (map_get hx37) fun p33 q34 hq35 => ?_
            refine .dpu rfl (.n rfl) (P.ixi (i := i38) .t0 hi39 .t0 hq35 runUnderlying22 sizeOf38) rfl rfl ?_
            refine .dpu rfl (.n rfl) (P.fa (off' := q34) .t0 fa_38_0 rfl) rfl rfl ?_
            refine .dpu rfl (.n rfl) (P.mov .g6) rfl rfl ?_
            refine .dpu rfl (.n rfl) (P.mov .g5) rfl rfl ?_
            obtain ⟨x43, hx44, hj16⟩ := bnd_eq hj16
            obtain ⟨i45, hi46, hx44⟩ := at_eq hx44
            refine .ixq Mm.m0 (map_get hx44) fun p40 q41 hq42 => ?_
            refine .dpu rfl (.n rfl) (P.ixi (i := i45) .t0 hi46 .t0 hq42 runUnderlying22 sizeOf38) rfl rfl ?_
            refine .dpu rfl (.n rfl) (P.fa (off' := q41 + 2) .t0 fa_38_2 rfl) rfl rfl ?_
            refine .dpu rfl (.n rfl) (P.fa (off' := q41 + 4) .t0 fa_36_2 rfl) rfl rfl ?_
            refine .dld rfl (.n rfl) (V.ldx0 (u := N x36.Time) .t1 hq35 Mm.m0 (map_get hx37) (.one isAgg3 rfl)) (fun _ h => (h.imp (Ls.of (.cons .k0 (.cons .k0 .nil)))).ro (Rs.cons Mm.m0 Rs.nil)) rfl rfl ?_
            refine .dld rfl (.n rfl) (V.ldx (u := N x43.Tx.Kind) (off := q41) (k := 4) .t1 hq42 Mm.m0 (map_get hx44) (.one isAgg3 rfl)) (fun _ h => (h.imp (Ls.of (.cons .k0 (.cons .k0 .nil)))).ro (Rs.cons Mm.m0 Rs.nil)) rfl rfl ?_
            refine .dld rfl (.n rfl) (V.ld (v := Ag (api_Wide.cs r24.1)) .t4 .k1 (.agg isAgg27 sizeOf27 rfl rfl)) (fun _ h => (h.imp (Ls.of (.cons .k0 (.cons .k0 .nil)))).ro (Rs.cons Mm.m0 Rs.nil)) rfl rfl ?_
            refine .dld rfl (.n rfl) (V.ld (v := Ag (api_Wide.cs r24.2)) .t4 .k0 (.agg isAgg27 sizeOf27 rfl rfl)) (fun _ h => (h.imp (Ls.of (.cons .k0 (.cons .k0 .nil)))).ro (Rs.cons Mm.m0 Rs.nil)) rfl rfl ?_
            refine .dpu rfl (.n rfl) (P.bld (v := Ag (history_Line.cs ⟨x36.Time, x43.Tx.Kind, r24.1, r24.2⟩)) (.cons .t3 (.cons .t2 (.cons .t1 (.cons .t0 .nil)))) (bld_run zeroValue40 runUnderlying40 pl_40 (by kernel_rfl))) rfl rfl ?_
            refine .dgo rfl (.n rfl) (G.bsl (cs := (history_Line.cs ⟨x36.Time, x43.Tx.Kind, r24.1, r24.2⟩)) .t0 runUnderlying24 sizeOf40 zeroValue40 rfl rfl rfl rfl rfl) (.inr fun _ _ _ h => (h.imp (Ls.of (.cons .k1 (.cons .k1 .nil)))).ro (Rs.cons Mm.m0 Rs.nil)) fun u47 _ => ?_
            obtain ⟨hb49, hj16⟩ := grd_eq hj16
            refine .dgo rfl (.n rfl) (G.app (by_ := 80) .t1 .t0 .k3 (.inr (.inr ⟨_, Mm.m0⟩)) runUnderlying24 runUnderlying24 sizeOf40 typeInfo40 rfl rfl zeroValue40 rfl rfl (by simpa using hb49) rfl) (.inr fun _ _ _ h => (h.imp (Ls.of (.cons .k2 (.cons .k2 .nil)))).ro (Rs.cons Mm.m0 Rs.nil)) fun u48 _ => ?_
            refine .conseq .k0 (q := lst 40 10 u48 (((s4.2 ++ ([⟨x36.Time, x43.Tx.Kind, r24.1, r24.2⟩] : List history_Line))).map history_Line.cs)) (fun _ hh => by simpa [List.map_append] using hh) ?_
            refine .drop .k2 ?_
            refine .dgo rfl (.n rfl) (OpV.g (OpP.toV (P.asg .t0)) rfl) (.inr fun _ _ _ h => (h.imp (Ls.of (.cons .k2 (.cons .k2 .nil)))).ro (Rs.cons Mm.m0 Rs.nil)) fun _ _ => ?_
            refine .dnil ?_
            refine .inn ?_
            cases hj16
            exact .stj u48 (.cons Mm.m0 (.cons Mm.m1 (.cons Mm.m2 (.cons Mm.m3 (.cons Mm.m4 (.cons Mm.m5 .nil)))))) (.of (.cons .k0 .nil)) (.cons Mm.m0 .nil)
          · rw [if_neg (ne_true_of_eq_false c32)] at hj16
            refine .skip ?_
            refine .inn ?_
            cases hj16
            exact .stj z5 (.cons Mm.m3 (.cons Mm.m2 (.cons Mm.m4 (.cons Mm.m5 (.cons Mm.m6 (.cons Mm.m7 .nil)))))) (.of (.cons .k2 .nil)) (.cons Mm.m0 .nil)
      · clear hj16
        refine .reg ?_
        refine .opp (P.mov .g1) rfl ?_
        refine .opp (P.bin .t0 .k .add) rfl ?_
        refine .drop .k2 ?_
        refine .opp (P.asg .t0) rfl ?_
        refine .nil ?_
        cases hc8
        obtain ⟨m50, hm51, hn9⟩ := hn9
        exact .rdW ((IntKind.i64.wrap (s4.1 + 1), y14)) z15 hm51 hn9 (.cons Mm.m0 (.cons Mm.m1 (.cons Mm.m2 (.cons Mm.m3 (.cons Mm.m4 (.cons Mm.m5 .nil)))))) (.of (.cons .k0 .nil)) (.cons Mm.m0 .nil)
    · rw [if_neg (ne_true_of_eq_false c13)] at hc8
      refine .exit ?_
      refine .thx ?_
      cases hc8
      refine .told (γ := Value) h hn9 (fun (s4 : Int × (List history_Line)) z5 => [(10, N s4.1), (9, z5), (0, v00), (1, N a1), (2, N a2), (3, N a3)]) (fun (s4 : Int × (List history_Line)) z5 => [lst 40 10 z5 (s4.2.map history_Line.cs)]) (fun (s4 : Int × (List history_Line)) z5 => [rows 27 v00 (a0.map api_Event.cs)]) z5 (.cons Mm.m0 (.cons Mm.m1 (.cons Mm.m2 (.cons Mm.m3 (.cons Mm.m4 (.cons Mm.m5 .nil)))))) (.of (.cons .k0 .nil)) (.cons Mm.m0 .nil) (fun s4 z5 h' => ?_)
      replace h := h'
      refine .thx ?_
      refine .inb ?_
      refine .then ?_
      refine .seq ?_
      refine .reg ?_
      refine .opp (P.mov .t2) rfl ?_
      refine .opp (P.mov .t3) rfl ?_
      refine .opp (P.mov .t4) rfl ?_
      refine .opp (P.mov .t5) rfl ?_
      obtain ⟨r52, hr53, h⟩ := bnd_eq h
      refine .opg (G.call call17 (.cons .t3 (.cons .t2 (.cons .t1 (.cons .t0 .nil)))) (S_history_Of v00 a0 a1 a2 a3 r52 hr53) .nil (.cons Mm.m0 .nil) (fun _ _ => rfl) (fun _ _ => rfl) rfl) rfl fun u54 _ => ?_
      refine .opp (P.asg .t0) rfl ?_
      refine .nil ?_
      refine .then ?_
      refine .seq ?_
      refine .seq ?_
      refine .reg ?_
      refine .opp (P.mov .g0) rfl ?_
      refine .op (V.lnl (n := r52.length) .t0 .k0 map_len runUnderlying24) rfl ?_
      refine .opp (P.mov .g3) rfl ?_
      refine .op (V.lnl (n := s4.2.length) .t0 .k1 map_len runUnderlying24) rfl ?_
      refine .opp (P.bin .t1 .t0 .neq) rfl ?_
      refine .nil ?_
      refine .then ?_
      refine .cond .t0 (fun c55 => ?_) (fun c55 => ?_)
      · rw [if_pos c55] at h
        refine .seq ?_
        refine .reg ?_
        refine .opp (P.asg .k) rfl ?_
        refine .nil ?_
        refine .then ?_
        refine .ret ?_
        refine .thr ?_
        cases h
        exact .finw () (.r1 rfl (.tmp .g0)) trivial (Ls.of .nil) .nil
      · rw [if_neg (ne_true_of_eq_false c55)] at h
        refine .skip ?_
        refine .then ?_
        refine .seq ?_
        refine .seq ?_
        refine .reg ?_
        refine .opp (P.asg .k) rfl ?_
        refine .nil ?_
        refine .then ?_
        refine .block ?_
        obtain ⟨o58, ho59, h⟩ := bnd_eq h
        refine .loopW (γ := Unit) (fun (s56 : Int) z57 => [(14, N s56), (13, u54), (9, z5)]) (fun (s56 : Int) z57 => [lst 40 10 u54 (r52.map history_Line.cs), lst 40 10 z5 (s4.2.map history_Line.cs)]) (fun (s56 : Int) z57 => [rows 27 v00 (a0.map api_Event.cs)]) () ho59 (.cons Mm.m0 (.cons Mm.m1 (.cons Mm.m3 .nil))) (.of (.cons .k0 (.cons .k0 .nil))) (.cons Mm.m0 .nil) (fun n64 s56 z57 hr62 => ?_)
        obtain ⟨ct63, hc60, hn61⟩ := loopK_at hr62
        refine .seq ?_
        refine .seq ?_
        refine .reg ?_
        refine .opp (P.mov .g0) rfl ?_
        refine .opp (P.mov .g2) rfl ?_
        refine .op (V.lnl (n := r52.length) .t0 .k0 map_len runUnderlying24) rfl ?_
        refine .opp (P.bin .t1 .t0 .lss) rfl ?_
        refine .nil ?_
        refine .then ?_
        refine .cond .t0 (fun c65 => ?_) (fun c65 => ?_)
        · rw [if_pos c65] at hc60
          refine .skip ?_
          refine .then ?_
          refine .seq ?_
          refine .block ?_
          refine .seq ?_
          refine .draw 9 (.on 0 .pu (.on 1 .pu (.on 2 .pu (.on 4 .pu (.on 5 .pu (.on 6 .pu (.on 3 .ld (.on 7 .ld (.on 8 .pu .nl))))))))) follows_mixed (.thn (.inb (.thn (.thn (.inb (.thn .body)))))) (by kernel_rfl) ?_
          refine .dpu rfl (.n rfl) (P.mov .g1) rfl rfl ?_
          refine .dpu rfl (.n rfl) (P.mov .g1) rfl rfl ?_
          obtain ⟨x69, hx70, hc60⟩ := bnd_eq hc60
          obtain ⟨i71, hi72, hx70⟩ := at_eq hx70
          refine .ixql .k0 (map_get hx70) fun p66 q67 hq68 => ?_
          refine .dpu rfl (.n rfl) (P.ixi (i := i71) .t0 hi72 .t0 hq68 runUnderlying24 sizeOf40) rfl rfl ?_
          refine .dpu rfl (.n rfl) (P.mov .g3) rfl rfl ?_
          refine .dpu rfl (.n rfl) (P.mov .g2) rfl rfl ?_
          obtain ⟨x76, hx77, hc60⟩ := bnd_eq hc60
          obtain ⟨i78, hi79, hx77⟩ := at_eq hx77
          refine .ixql .k1 (map_get hx77) fun p73 q74 hq75 => ?_
          refine .dpu rfl (.n rfl) (P.ixi (i := i78) .t0 hi79 .t0 hq75 runUnderlying24 sizeOf40) rfl rfl ?_
          refine .dld rfl (.n rfl) (V.ldxl0 (u := Ag (history_Line.cs x69)) .t1 hq68 .k0 (map_get hx70) (.agg isAgg40 sizeOf40 rfl rfl)) (fun _ h => h) rfl rfl ?_
          refine .dld rfl (.n rfl) (V.ldxl0 (u := Ag (history_Line.cs x76)) .t1 hq75 .k1 (map_get hx77) (.agg isAgg40 sizeOf40 rfl rfl)) (fun _ h => h) rfl rfl ?_
          refine .dpu rfl (.n rfl) (P.bin .t1 .t0 (eq_40_neq _ _)) rfl rfl ?_
          refine .dnil ?_
          refine .then ?_
          refine .cond .t0 (fun c80 => ?_) (fun c80 => ?_)
          · rw [if_pos c80] at hc60
            refine .seq ?_
            refine .reg ?_
            refine .opp (P.asg .k) rfl ?_
            refine .nil ?_
            refine .then ?_
            refine .ret ?_
            refine .inr ?_
            refine .thr ?_
            obtain ⟨x81, hx82, rfl⟩ := map_rt hc60
            obtain rfl := hn61
            obtain rfl := rt_on h
            refine .thr ?_
            refine .inr ?_
            refine .thr ?_
            cases hx82
            exact .finw () (.r1 rfl (.tmp .g0)) trivial (Ls.of .nil) .nil
          · rw [if_neg (ne_true_of_eq_false c80)] at hc60
            refine .skip ?_
            refine .inn ?_
            refine .then ?_
            refine .reg ?_
            refine .opp (P.mov .g0) rfl ?_
            refine .opp (P.bin .t0 .k .add) rfl ?_
            refine .drop .k1 ?_
            refine .opp (P.asg .t0) rfl ?_
            refine .nil ?_
            cases hc60
            obtain ⟨m83, hm84, hn61⟩ := hn61
            exact .rdW (IntKind.i64.wrap (s56 + 1)) () hm84 hn61 (.cons Mm.m0 (.cons Mm.m1 (.cons Mm.m2 .nil))) (.of (.cons .k0 (.cons .k0 .nil))) (.cons Mm.m0 .nil)
        · rw [if_neg (ne_true_of_eq_false c65)] at hc60
          refine .exit ?_
          refine .thx ?_
          cases hc60
          refine .told (γ := Unit) h hn61 (fun (s56 : Int) _ => [(14, N s56), (13, u54), (9, z5)]) (fun (s56 : Int) _ => [lst 40 10 u54 (r52.map history_Line.cs), lst 40 10 z5 (s4.2.map history_Line.cs)]) (fun (s56 : Int) _ => [rows 27 v00 (a0.map api_Event.cs)]) () (.cons Mm.m0 (.cons Mm.m1 (.cons Mm.m2 .nil))) (.of (.cons .k0 (.cons .k0 .nil))) (.cons Mm.m0 .nil) (fun s56 _ h' => ?_)
          replace h := h'
          refine .thx ?_
          refine .inb ?_
          refine .then ?_
          refine .seq ?_
          refine .reg ?_
          refine .opp (P.asg .k) rfl ?_
          refine .nil ?_
          refine .then ?_
          refine .ret ?_
          cases h
          exact .finw () (.r1 rfl (.tmp .g0)) trivial (Ls.of .nil) .nil
attribute [irreducible] narrowslaw31_HistoryTells
end Go.Sl
