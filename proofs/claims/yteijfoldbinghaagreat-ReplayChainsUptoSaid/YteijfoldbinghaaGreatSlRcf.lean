/- Walked code of the program, its pure functions and their contracts. -/
import Derived.Test.YteijfoldbinghaaGreatSlRce
set_option linter.unusedVariables false
set_option linter.unusedSimpArgs false
namespace Go.Sl
open Go.Proofs Go.Proofs.Tryz
structure chain_Chain where
  s : escrow_State
  pool : List api_Tx
  events : List api_Event
  made : Bool
  deriving DecidableEq
def chain_Chain.cs (x : chain_Chain) (z0 z1 z2 : Value) : List Value := [N x.s.Side, N x.s.Time, U x.s.Purse.a0.a0.a0, U x.s.Purse.a0.a0.a1, U x.s.Purse.a0.a0.a2, U x.s.Purse.a0.a0.a3, U x.s.Purse.a0.a1.a0, U x.s.Purse.a0.a1.a1, U x.s.Purse.a0.a1.a2, U x.s.Purse.a0.a1.a3, U x.s.Purse.a1.a0.a0, U x.s.Purse.a1.a0.a1, U x.s.Purse.a1.a0.a2, U x.s.Purse.a1.a0.a3, U x.s.Purse.a1.a1.a0, U x.s.Purse.a1.a1.a1, U x.s.Purse.a1.a1.a2, U x.s.Purse.a1.a1.a3, U x.s.Purse.a2.a0.a0, U x.s.Purse.a2.a0.a1, U x.s.Purse.a2.a0.a2, U x.s.Purse.a2.a0.a3, U x.s.Purse.a2.a1.a0, U x.s.Purse.a2.a1.a1, U x.s.Purse.a2.a1.a2, U x.s.Purse.a2.a1.a3, U x.s.Purse.a3.a0.a0, U x.s.Purse.a3.a0.a1, U x.s.Purse.a3.a0.a2, U x.s.Purse.a3.a0.a3, U x.s.Purse.a3.a1.a0, U x.s.Purse.a3.a1.a1, U x.s.Purse.a3.a1.a2, U x.s.Purse.a3.a1.a3, U x.s.Purse.a4.a0.a0, U x.s.Purse.a4.a0.a1, U x.s.Purse.a4.a0.a2, U x.s.Purse.a4.a0.a3, U x.s.Purse.a4.a1.a0, U x.s.Purse.a4.a1.a1, U x.s.Purse.a4.a1.a2, U x.s.Purse.a4.a1.a3, U x.s.Purse.a5.a0.a0, U x.s.Purse.a5.a0.a1, U x.s.Purse.a5.a0.a2, U x.s.Purse.a5.a0.a3, U x.s.Purse.a5.a1.a0, U x.s.Purse.a5.a1.a1, U x.s.Purse.a5.a1.a2, U x.s.Purse.a5.a1.a3, U x.s.Purse.a6.a0.a0, U x.s.Purse.a6.a0.a1, U x.s.Purse.a6.a0.a2, U x.s.Purse.a6.a0.a3, U x.s.Purse.a6.a1.a0, U x.s.Purse.a6.a1.a1, U x.s.Purse.a6.a1.a2, U x.s.Purse.a6.a1.a3, U x.s.Purse.a7.a0.a0, U x.s.Purse.a7.a0.a1, U x.s.Purse.a7.a0.a2, U x.s.Purse.a7.a0.a3, U x.s.Purse.a7.a1.a0, U x.s.Purse.a7.a1.a1, U x.s.Purse.a7.a1.a2, U x.s.Purse.a7.a1.a3, U x.s.Vault.a0.a0.a0, U x.s.Vault.a0.a0.a1, U x.s.Vault.a0.a0.a2, U x.s.Vault.a0.a0.a3, U x.s.Vault.a0.a1.a0, U x.s.Vault.a0.a1.a1, U x.s.Vault.a0.a1.a2, U x.s.Vault.a0.a1.a3, U x.s.Vault.a1.a0.a0, U x.s.Vault.a1.a0.a1, U x.s.Vault.a1.a0.a2, U x.s.Vault.a1.a0.a3, U x.s.Vault.a1.a1.a0, U x.s.Vault.a1.a1.a1, U x.s.Vault.a1.a1.a2, U x.s.Vault.a1.a1.a3, U x.s.Vault.a2.a0.a0, U x.s.Vault.a2.a0.a1, U x.s.Vault.a2.a0.a2, U x.s.Vault.a2.a0.a3, U x.s.Vault.a2.a1.a0, U x.s.Vault.a2.a1.a1, U x.s.Vault.a2.a1.a2, U x.s.Vault.a2.a1.a3, U x.s.Vault.a3.a0.a0, U x.s.Vault.a3.a0.a1, U x.s.Vault.a3.a0.a2, U x.s.Vault.a3.a0.a3, U x.s.Vault.a3.a1.a0, U x.s.Vault.a3.a1.a1, U x.s.Vault.a3.a1.a2, U x.s.Vault.a3.a1.a3, U x.s.Vault.a4.a0.a0, U x.s.Vault.a4.a0.a1, U x.s.Vault.a4.a0.a2, U x.s.Vault.a4.a0.a3, U x.s.Vault.a4.a1.a0, U x.s.Vault.a4.a1.a1, U x.s.Vault.a4.a1.a2, U x.s.Vault.a4.a1.a3, U x.s.Vault.a5.a0.a0, U x.s.Vault.a5.a0.a1, U x.s.Vault.a5.a0.a2, U x.s.Vault.a5.a0.a3, U x.s.Vault.a5.a1.a0, U x.s.Vault.a5.a1.a1, U x.s.Vault.a5.a1.a2, U x.s.Vault.a5.a1.a3, U x.s.Vault.a6.a0.a0, U x.s.Vault.a6.a0.a1, U x.s.Vault.a6.a0.a2, U x.s.Vault.a6.a0.a3, U x.s.Vault.a6.a1.a0, U x.s.Vault.a6.a1.a1, U x.s.Vault.a6.a1.a2, U x.s.Vault.a6.a1.a3, U x.s.Vault.a7.a0.a0, U x.s.Vault.a7.a0.a1, U x.s.Vault.a7.a0.a2, U x.s.Vault.a7.a0.a3, U x.s.Vault.a7.a1.a0, U x.s.Vault.a7.a1.a1, U x.s.Vault.a7.a1.a2, U x.s.Vault.a7.a1.a3, N x.s.Nonces.a0, N x.s.Nonces.a1, N x.s.Nonces.a2, N x.s.Nonces.a3, N x.s.Nonces.a4, N x.s.Nonces.a5, N x.s.Nonces.a6, N x.s.Nonces.a7, U x.s.Held.a0.a0, U x.s.Held.a0.a1, U x.s.Held.a0.a2, U x.s.Held.a0.a3, U x.s.Held.a1.a0, U x.s.Held.a1.a1, U x.s.Held.a1.a2, U x.s.Held.a1.a3, U x.s.Burnt.a0, U x.s.Burnt.a1, U x.s.Burnt.a2, U x.s.Burnt.a3, z0, z1, z2, .bool x.made]
def chain_Chain.z : chain_Chain := ⟨escrow_State.z, [], [], false⟩
theorem fa_62_1 : FaV Tryz.prog 62 1 151 := .mk runUnderlying62 rfl sizeOf22 rfl rfl
theorem fa_62_3 : FaV Tryz.prog 62 3 153 := .mk runUnderlying62 rfl sizeOf4 rfl rfl
theorem fa_70_1 : FaV Tryz.prog 70 1 1 := .mk runUnderlying70 rfl sizeOf63 rfl rfl
theorem pl_62 : ∀ w, ((#[{ name := "s", type := 45, offset := 0, embedded := false, tag := "", pkgPath := "narrows/chain", byteOffset := 0 }, { name := "pool", type := 22, offset := 151, embedded := false, tag := "", pkgPath := "narrows/chain", byteOffset := 1224 }, { name := "events", type := 48, offset := 152, embedded := false, tag := "", pkgPath := "narrows/chain", byteOffset := 1248 }, { name := "made", type := 4, offset := 153, embedded := false, tag := "", pkgPath := "narrows/chain", byteOffset := 1272 }] : Array Field).mapM fun f => do pure (f.offset, ← sizeOf f.type) : Sem (Array (Nat × Nat))).run Tryz.prog w = .ok #[(0, 151), (151, 1), (152, 1), (153, 1)] w := fun w => by simp [sizeOf4, sizeOf22, sizeOf45, sizeOf48]
theorem one_36 (x : api_Tx) : oneAll (api_Tx.cs x) = true := rfl
theorem eqv_32 (d : Nat) (x y : api_Inv) : EqV Tryz.prog (d + 2) 32 (Ag x.cs) (Ag y.cs) (decide (x = y)) :=
  EqV.cast (.struct (fs := [{ name := "User", type := 3, offset := 0, embedded := false, tag := "", pkgPath := "", byteOffset := 0 }, { name := "Root", type := 9, offset := 1, embedded := false, tag := "", pkgPath := "", byteOffset := 8 }, { name := "Router", type := 3, offset := 2, embedded := false, tag := "", pkgPath := "", byteOffset := 24 }, { name := "Send", type := 3, offset := 3, embedded := false, tag := "", pkgPath := "", byteOffset := 32 }, { name := "Recv", type := 3, offset := 4, embedded := false, tag := "", pkgPath := "", byteOffset := 40 }, { name := "To", type := 3, offset := 5, embedded := false, tag := "", pkgPath := "", byteOffset := 48 }, { name := "Id", type := 9, offset := 6, embedded := false, tag := "", pkgPath := "", byteOffset := 56 }]) (by kernel_rfl) (by kernel_rfl) (.cons rfl (.one isAgg3 rfl) (.one isAgg3 rfl) (EqV.int (by kernel_rfl)) (.cons rfl (.one isAgg9 rfl) (.one isAgg9 rfl) (EqV.str (by kernel_rfl)) (.cons rfl (.one isAgg3 rfl) (.one isAgg3 rfl) (EqV.int (by kernel_rfl)) (.cons rfl (.one isAgg3 rfl) (.one isAgg3 rfl) (EqV.int (by kernel_rfl)) (.cons rfl (.one isAgg3 rfl) (.one isAgg3 rfl) (EqV.int (by kernel_rfl)) (.cons rfl (.one isAgg3 rfl) (.one isAgg3 rfl) (EqV.int (by kernel_rfl)) (.cons rfl (.one isAgg9 rfl) (.one isAgg9 rfl) (EqV.str (by kernel_rfl)) .nil)))))))) (by cases x; cases y; rw [Bool.eq_iff_iff]; simp [api_Inv.mk.injEq, and_assoc])
theorem eq_32_eql (x y : api_Inv) : BinV Tryz.prog .eql 32 (Ag x.cs) (Ag y.cs) (Bo (decide (x = y))) := .eqv (by kernel_rfl) (eqv_32 9998 x y)
theorem eq_32_neq (x y : api_Inv) : BinV Tryz.prog .neq 32 (Ag x.cs) (Ag y.cs) (Bo (decide (x ≠ y))) := by
  have := BinV.neqv (P := Tryz.prog) (by kernel_rfl) (eqv_32 9998 x y); rw [← decide_not'] at this; exact this
theorem eqv_34 (d : Nat) (x y : api_Var) : EqV Tryz.prog (d + 3) 34 (Ag x.cs) (Ag y.cs) (decide (x = y)) :=
  EqV.cast (.struct (fs := [{ name := "Amount", type := 30, offset := 0, embedded := false, tag := "", pkgPath := "", byteOffset := 0 }, { name := "Expiry", type := 3, offset := 4, embedded := false, tag := "", pkgPath := "", byteOffset := 32 }]) (by kernel_rfl) (by kernel_rfl) (.cons rfl (.agg isAgg30 sizeOf30 (by kernel_rfl)) (.agg isAgg30 sizeOf30 (by kernel_rfl)) (eqv_30 _ x.Amount y.Amount) (.cons rfl (.one isAgg3 rfl) (.one isAgg3 rfl) (EqV.int (by kernel_rfl)) .nil))) (by cases x; cases y; rw [Bool.eq_iff_iff]; simp [api_Var.mk.injEq, and_assoc])
theorem eq_34_eql (x y : api_Var) : BinV Tryz.prog .eql 34 (Ag x.cs) (Ag y.cs) (Bo (decide (x = y))) := .eqv (by kernel_rfl) (eqv_34 9997 x y)
theorem eq_34_neq (x y : api_Var) : BinV Tryz.prog .neq 34 (Ag x.cs) (Ag y.cs) (Bo (decide (x ≠ y))) := by
  have := BinV.neqv (P := Tryz.prog) (by kernel_rfl) (eqv_34 9997 x y); rw [← decide_not'] at this; exact this
theorem eqv_36 (d : Nat) (x y : api_Tx) : EqV Tryz.prog (d + 4) 36 (Ag x.cs) (Ag y.cs) (decide (x = y)) :=
  EqV.cast (.struct (fs := [{ name := "From", type := 3, offset := 0, embedded := false, tag := "", pkgPath := "", byteOffset := 0 }, { name := "Nonce", type := 3, offset := 1, embedded := false, tag := "", pkgPath := "", byteOffset := 8 }, { name := "Kind", type := 3, offset := 2, embedded := false, tag := "", pkgPath := "", byteOffset := 16 }, { name := "Asset", type := 3, offset := 3, embedded := false, tag := "", pkgPath := "", byteOffset := 24 }, { name := "Amount", type := 30, offset := 4, embedded := false, tag := "", pkgPath := "", byteOffset := 32 }, { name := "Inv", type := 32, offset := 8, embedded := false, tag := "", pkgPath := "", byteOffset := 64 }, { name := "Var", type := 34, offset := 15, embedded := false, tag := "", pkgPath := "", byteOffset := 136 }, { name := "Fee", type := 30, offset := 20, embedded := false, tag := "", pkgPath := "", byteOffset := 176 }, { name := "Sig", type := 9, offset := 24, embedded := false, tag := "", pkgPath := "", byteOffset := 208 }]) (by kernel_rfl) (by kernel_rfl) (.cons rfl (.one isAgg3 rfl) (.one isAgg3 rfl) (EqV.int (by kernel_rfl)) (.cons rfl (.one isAgg3 rfl) (.one isAgg3 rfl) (EqV.int (by kernel_rfl)) (.cons rfl (.one isAgg3 rfl) (.one isAgg3 rfl) (EqV.int (by kernel_rfl)) (.cons rfl (.one isAgg3 rfl) (.one isAgg3 rfl) (EqV.int (by kernel_rfl)) (.cons rfl (.agg isAgg30 sizeOf30 (by kernel_rfl)) (.agg isAgg30 sizeOf30 (by kernel_rfl)) (eqv_30 _ x.Amount y.Amount) (.cons rfl (.agg isAgg32 sizeOf32 (by kernel_rfl)) (.agg isAgg32 sizeOf32 (by kernel_rfl)) (eqv_32 _ x.Inv y.Inv) (.cons rfl (.agg isAgg34 sizeOf34 (by kernel_rfl)) (.agg isAgg34 sizeOf34 (by kernel_rfl)) (eqv_34 _ x.Var y.Var) (.cons rfl (.agg isAgg30 sizeOf30 (by kernel_rfl)) (.agg isAgg30 sizeOf30 (by kernel_rfl)) (eqv_30 _ x.Fee y.Fee) (.cons rfl (.one isAgg9 rfl) (.one isAgg9 rfl) (EqV.str (by kernel_rfl)) .nil)))))))))) (by cases x; cases y; rw [Bool.eq_iff_iff]; simp [api_Tx.mk.injEq, and_assoc])
theorem eq_36_eql (x y : api_Tx) : BinV Tryz.prog .eql 36 (Ag x.cs) (Ag y.cs) (Bo (decide (x = y))) := .eqv (by kernel_rfl) (eqv_36 9996 x y)
theorem eq_36_neq (x y : api_Tx) : BinV Tryz.prog .neq 36 (Ag x.cs) (Ag y.cs) (Bo (decide (x ≠ y))) := by
  have := BinV.neqv (P := Tryz.prog) (by kernel_rfl) (eqv_36 9996 x y); rw [← decide_not'] at this; exact this
theorem eqv_39 (d : Nat) (x y : A2_api_Wide) : EqV Tryz.prog (d + 3) 39 (Ag x.cs) (Ag y.cs) (decide (x = y)) :=
  EqV.cast (.array (by kernel_rfl) sizeOf30 (.cons (.agg isAgg30 sizeOf30 (by kernel_rfl)) (.agg isAgg30 sizeOf30 (by kernel_rfl)) (eqv_30 _ x.a0 y.a0) (.cons (.agg isAgg30 sizeOf30 (by kernel_rfl)) (.agg isAgg30 sizeOf30 (by kernel_rfl)) (eqv_30 _ x.a1 y.a1) .nil))) (by cases x; cases y; rw [Bool.eq_iff_iff]; simp [A2_api_Wide.mk.injEq, and_assoc])
theorem eq_39_eql (x y : A2_api_Wide) : BinV Tryz.prog .eql 39 (Ag x.cs) (Ag y.cs) (Bo (decide (x = y))) := .eqv (by kernel_rfl) (eqv_39 9997 x y)
theorem eq_39_neq (x y : A2_api_Wide) : BinV Tryz.prog .neq 39 (Ag x.cs) (Ag y.cs) (Bo (decide (x ≠ y))) := by
  have := BinV.neqv (P := Tryz.prog) (by kernel_rfl) (eqv_39 9997 x y); rw [← decide_not'] at this; exact this
theorem eqv_41 (d : Nat) (x y : purse_Book) : EqV Tryz.prog (d + 4) 41 (Ag x.cs) (Ag y.cs) (decide (x = y)) :=
  EqV.cast (.array (by kernel_rfl) sizeOf39 (.cons (.agg isAgg39 sizeOf39 (by kernel_rfl)) (.agg isAgg39 sizeOf39 (by kernel_rfl)) (eqv_39 _ x.a0 y.a0) (.cons (.agg isAgg39 sizeOf39 (by kernel_rfl)) (.agg isAgg39 sizeOf39 (by kernel_rfl)) (eqv_39 _ x.a1 y.a1) (.cons (.agg isAgg39 sizeOf39 (by kernel_rfl)) (.agg isAgg39 sizeOf39 (by kernel_rfl)) (eqv_39 _ x.a2 y.a2) (.cons (.agg isAgg39 sizeOf39 (by kernel_rfl)) (.agg isAgg39 sizeOf39 (by kernel_rfl)) (eqv_39 _ x.a3 y.a3) (.cons (.agg isAgg39 sizeOf39 (by kernel_rfl)) (.agg isAgg39 sizeOf39 (by kernel_rfl)) (eqv_39 _ x.a4 y.a4) (.cons (.agg isAgg39 sizeOf39 (by kernel_rfl)) (.agg isAgg39 sizeOf39 (by kernel_rfl)) (eqv_39 _ x.a5 y.a5) (.cons (.agg isAgg39 sizeOf39 (by kernel_rfl)) (.agg isAgg39 sizeOf39 (by kernel_rfl)) (eqv_39 _ x.a6 y.a6) (.cons (.agg isAgg39 sizeOf39 (by kernel_rfl)) (.agg isAgg39 sizeOf39 (by kernel_rfl)) (eqv_39 _ x.a7 y.a7) .nil))))))))) (by cases x; cases y; rw [Bool.eq_iff_iff]; simp [purse_Book.mk.injEq, and_assoc])
theorem eq_41_eql (x y : purse_Book) : BinV Tryz.prog .eql 41 (Ag x.cs) (Ag y.cs) (Bo (decide (x = y))) := .eqv (by kernel_rfl) (eqv_41 9996 x y)
theorem eq_41_neq (x y : purse_Book) : BinV Tryz.prog .neq 41 (Ag x.cs) (Ag y.cs) (Bo (decide (x ≠ y))) := by
  have := BinV.neqv (P := Tryz.prog) (by kernel_rfl) (eqv_41 9996 x y); rw [← decide_not'] at this; exact this
theorem eqv_42 (d : Nat) (x y : A8_i64) : EqV Tryz.prog (d + 2) 42 (Ag x.cs) (Ag y.cs) (decide (x = y)) :=
  EqV.cast (.array (by kernel_rfl) sizeOf3 (.cons (.one isAgg3 rfl) (.one isAgg3 rfl) (EqV.int (by kernel_rfl)) (.cons (.one isAgg3 rfl) (.one isAgg3 rfl) (EqV.int (by kernel_rfl)) (.cons (.one isAgg3 rfl) (.one isAgg3 rfl) (EqV.int (by kernel_rfl)) (.cons (.one isAgg3 rfl) (.one isAgg3 rfl) (EqV.int (by kernel_rfl)) (.cons (.one isAgg3 rfl) (.one isAgg3 rfl) (EqV.int (by kernel_rfl)) (.cons (.one isAgg3 rfl) (.one isAgg3 rfl) (EqV.int (by kernel_rfl)) (.cons (.one isAgg3 rfl) (.one isAgg3 rfl) (EqV.int (by kernel_rfl)) (.cons (.one isAgg3 rfl) (.one isAgg3 rfl) (EqV.int (by kernel_rfl)) .nil))))))))) (by cases x; cases y; rw [Bool.eq_iff_iff]; simp [A8_i64.mk.injEq, and_assoc])
theorem eq_42_eql (x y : A8_i64) : BinV Tryz.prog .eql 42 (Ag x.cs) (Ag y.cs) (Bo (decide (x = y))) := .eqv (by kernel_rfl) (eqv_42 9998 x y)
theorem eq_42_neq (x y : A8_i64) : BinV Tryz.prog .neq 42 (Ag x.cs) (Ag y.cs) (Bo (decide (x ≠ y))) := by
  have := BinV.neqv (P := Tryz.prog) (by kernel_rfl) (eqv_42 9998 x y); rw [← decide_not'] at this; exact this
theorem eqv_70 (d : Nat) (x y : api_Event) : EqV Tryz.prog (d + 5) 70 (Ag x.cs) (Ag y.cs) (decide (x = y)) :=
  EqV.cast (.struct (fs := [{ name := "Time", type := 3, offset := 0, embedded := false, tag := "", pkgPath := "", byteOffset := 0 }, { name := "Code", type := 63, offset := 1, embedded := false, tag := "", pkgPath := "", byteOffset := 8 }, { name := "Tx", type := 36, offset := 2, embedded := false, tag := "", pkgPath := "", byteOffset := 16 }]) (by kernel_rfl) (by kernel_rfl) (.cons rfl (.one isAgg3 rfl) (.one isAgg3 rfl) (EqV.int (by kernel_rfl)) (.cons rfl (.one isAgg63 rfl) (.one isAgg63 rfl) (EqV.int (by kernel_rfl)) (.cons rfl (.agg isAgg36 sizeOf36 (by kernel_rfl)) (.agg isAgg36 sizeOf36 (by kernel_rfl)) (eqv_36 _ x.Tx y.Tx) .nil)))) (by cases x; cases y; rw [Bool.eq_iff_iff]; simp [api_Event.mk.injEq, and_assoc])
theorem eq_70_eql (x y : api_Event) : BinV Tryz.prog .eql 70 (Ag x.cs) (Ag y.cs) (Bo (decide (x = y))) := .eqv (by kernel_rfl) (eqv_70 9995 x y)
theorem eq_70_neq (x y : api_Event) : BinV Tryz.prog .neq 70 (Ag x.cs) (Ag y.cs) (Bo (decide (x ≠ y))) := by
  have := BinV.neqv (P := Tryz.prog) (by kernel_rfl) (eqv_70 9995 x y); rw [← decide_not'] at this; exact this
theorem eqv_76 (d : Nat) (x y : escrow_Lock) : EqV Tryz.prog (d + 2) 76 (Ag x.cs) (Ag y.cs) (decide (x = y)) :=
  EqV.cast (.struct (fs := [{ name := "Key", type := 9, offset := 0, embedded := false, tag := "", pkgPath := "", byteOffset := 0 }, { name := "Digest", type := 9, offset := 1, embedded := false, tag := "", pkgPath := "", byteOffset := 16 }, { name := "Status", type := 3, offset := 2, embedded := false, tag := "", pkgPath := "", byteOffset := 32 }]) (by kernel_rfl) (by kernel_rfl) (.cons rfl (.one isAgg9 rfl) (.one isAgg9 rfl) (EqV.str (by kernel_rfl)) (.cons rfl (.one isAgg9 rfl) (.one isAgg9 rfl) (EqV.str (by kernel_rfl)) (.cons rfl (.one isAgg3 rfl) (.one isAgg3 rfl) (EqV.int (by kernel_rfl)) .nil)))) (by cases x; cases y; rw [Bool.eq_iff_iff]; simp [escrow_Lock.mk.injEq, and_assoc])
theorem eq_76_eql (x y : escrow_Lock) : BinV Tryz.prog .eql 76 (Ag x.cs) (Ag y.cs) (Bo (decide (x = y))) := .eqv (by kernel_rfl) (eqv_76 9998 x y)
theorem eq_76_neq (x y : escrow_Lock) : BinV Tryz.prog .neq 76 (Ag x.cs) (Ag y.cs) (Bo (decide (x ≠ y))) := by
  have := BinV.neqv (P := Tryz.prog) (by kernel_rfl) (eqv_76 9998 x y); rw [← decide_not'] at this; exact this
noncomputable def escrow_State_try (a0 : escrow_State) (a1 : api_Tx) : Option (escrow_State × Int) :=
  Option.bind (slices_Clone_escrow_Lock a0.Locks) fun r7 => pxe (escrow_State_do (⟨a0.Side, a0.Time, a0.Purse, a0.Vault, a0.Nonces, a0.Held, a0.Burnt, r7⟩ : escrow_State) a1) (fun e13 => some (a0, e13)) fun r11 => some (r11, 0)
set_option maxRecDepth 20000 in
set_option maxHeartbeats 1000000 in
theorem S_escrow_State_try (a0 : escrow_State) (z0a : Value) (a1 : api_Tx) (r : escrow_State × Int) (h : escrow_State_try a0 a1 = some r) :
    SpecF Tryz.prog 48 [Ag (escrow_State.cs a0 z0a), Ag (api_Tx.cs a1)] [lst 76 3 z0a (a0.Locks.map escrow_Lock.cs)] [] (fun z : Value => True) (fun z => Tu [Ag (escrow_State.cs r.1 z), N r.2]) (fun z M => lst 76 3 z (r.1.Locks.map escrow_Lock.cs) :: M) (fun z M => M) := by
  refine .ofD func48 rfl ntmps48 rfl fun w0 D0 G0 => ?_
  unfold escrow_State_try at h
  refine .cell .k0 fun hv0 => ?_
  refine .seq ?_
  refine .reg rfl ?_
  refine .opx (X.box (cs := (escrow_State.cs a0 z0a)) .t0 rfl) rfl fun b1 => ?_
  refine .opx (X.box (cs := (api_Tx.cs a1)) .t1 rfl) rfl fun b2 => ?_
  refine .opx (X.alc (cs := (escrow_State.cs ⟨0, 0, ⟨⟨⟨0, 0, 0, 0⟩, ⟨0, 0, 0, 0⟩⟩, ⟨⟨0, 0, 0, 0⟩, ⟨0, 0, 0, 0⟩⟩, ⟨⟨0, 0, 0, 0⟩, ⟨0, 0, 0, 0⟩⟩, ⟨⟨0, 0, 0, 0⟩, ⟨0, 0, 0, 0⟩⟩, ⟨⟨0, 0, 0, 0⟩, ⟨0, 0, 0, 0⟩⟩, ⟨⟨0, 0, 0, 0⟩, ⟨0, 0, 0, 0⟩⟩, ⟨⟨0, 0, 0, 0⟩, ⟨0, 0, 0, 0⟩⟩, ⟨⟨0, 0, 0, 0⟩, ⟨0, 0, 0, 0⟩⟩⟩, ⟨⟨⟨0, 0, 0, 0⟩, ⟨0, 0, 0, 0⟩⟩, ⟨⟨0, 0, 0, 0⟩, ⟨0, 0, 0, 0⟩⟩, ⟨⟨0, 0, 0, 0⟩, ⟨0, 0, 0, 0⟩⟩, ⟨⟨0, 0, 0, 0⟩, ⟨0, 0, 0, 0⟩⟩, ⟨⟨0, 0, 0, 0⟩, ⟨0, 0, 0, 0⟩⟩, ⟨⟨0, 0, 0, 0⟩, ⟨0, 0, 0, 0⟩⟩, ⟨⟨0, 0, 0, 0⟩, ⟨0, 0, 0, 0⟩⟩, ⟨⟨0, 0, 0, 0⟩, ⟨0, 0, 0, 0⟩⟩⟩, ⟨0, 0, 0, 0, 0, 0, 0, 0⟩, ⟨⟨0, 0, 0, 0⟩, ⟨0, 0, 0, 0⟩⟩, ⟨0, 0, 0, 0⟩, []⟩ nilSl)) zeroValue45 rfl) rfl fun b3 => ?_
  refine .opx (X.alc (cs := [N 0]) zeroValue63 rfl) rfl fun b4 => ?_
  refine .nil ?_
  refine .then ?_
  refine .seq ?_
  refine .defr rfl (.cons .g3 (.cons .g1 (.cons .g0 .nil))) rfl ?_
  refine .then ?_
  refine .seq ?_
  refine .reg rfl ?_
  refine .op (V.ld (v := Ag (escrow_State.cs a0 z0a)) .g3 .k3 (.agg isAgg45 sizeOf45 rfl rfl)) rfl ?_
  refine .opx (X.alc (cs := (escrow_State.cs ⟨0, 0, ⟨⟨⟨0, 0, 0, 0⟩, ⟨0, 0, 0, 0⟩⟩, ⟨⟨0, 0, 0, 0⟩, ⟨0, 0, 0, 0⟩⟩, ⟨⟨0, 0, 0, 0⟩, ⟨0, 0, 0, 0⟩⟩, ⟨⟨0, 0, 0, 0⟩, ⟨0, 0, 0, 0⟩⟩, ⟨⟨0, 0, 0, 0⟩, ⟨0, 0, 0, 0⟩⟩, ⟨⟨0, 0, 0, 0⟩, ⟨0, 0, 0, 0⟩⟩, ⟨⟨0, 0, 0, 0⟩, ⟨0, 0, 0, 0⟩⟩, ⟨⟨0, 0, 0, 0⟩, ⟨0, 0, 0, 0⟩⟩⟩, ⟨⟨⟨0, 0, 0, 0⟩, ⟨0, 0, 0, 0⟩⟩, ⟨⟨0, 0, 0, 0⟩, ⟨0, 0, 0, 0⟩⟩, ⟨⟨0, 0, 0, 0⟩, ⟨0, 0, 0, 0⟩⟩, ⟨⟨0, 0, 0, 0⟩, ⟨0, 0, 0, 0⟩⟩, ⟨⟨0, 0, 0, 0⟩, ⟨0, 0, 0, 0⟩⟩, ⟨⟨0, 0, 0, 0⟩, ⟨0, 0, 0, 0⟩⟩, ⟨⟨0, 0, 0, 0⟩, ⟨0, 0, 0, 0⟩⟩, ⟨⟨0, 0, 0, 0⟩, ⟨0, 0, 0, 0⟩⟩⟩, ⟨0, 0, 0, 0, 0, 0, 0, 0⟩, ⟨⟨0, 0, 0, 0⟩, ⟨0, 0, 0, 0⟩⟩, ⟨0, 0, 0, 0⟩, []⟩ nilSl)) zeroValue45 rfl) rfl fun b5 => ?_
  refine .onel .k5 fun ho6 => ?_
  refine .opg (G.str .t1 .g0 .k0 (.mk (cs' := (escrow_State.cs a0 z0a)) sizeOf45 rfl (onez_45 _ ho6) rfl rfl)) rfl fun _ _ => ?_
  refine .nil ?_
  refine .then ?_
  refine .seq ?_
  refine .reg rfl ?_
  refine .opp (P.fa .t4 fa_45_7 rfl) rfl ?_
  refine .op (V.ld (v := z0a) .t0 .k4 (.one isAgg43 rfl)) rfl ?_
  obtain ⟨r7, hr8, h⟩ := bnd_eq h
  refine .opg (G.calll call32 (.cons .t0 .nil) (S_slices_Clone_escrow_Lock z0a a0.Locks r7 hr8) .nil (.imp (List.mem_append_right _ Mm.m5) (fun _ => lst_rows) .nil) (fun _ _ => rfl) rfl) rfl fun u9 _ => ?_
  refine .opp (P.fa .g1 fa_45_7 rfl) rfl ?_
  refine .onel .k0 fun ho10 => ?_
  refine .opg (G.str .t1 .t0 .k1 (.mk1 (cs' := (escrow_State.cs ⟨a0.Side, a0.Time, a0.Purse, a0.Vault, a0.Nonces, a0.Held, a0.Burnt, []⟩ u9)) sizeOf43 rfl ho10 rfl rfl)) rfl fun _ _ => ?_
  refine .nil ?_
  refine .then ?_
  refine .seq ?_
  refine .reg rfl ?_
  refine .op (V.ld (v := Ag (api_Tx.cs a1)) .t3 .k4 (.agg isAgg36 sizeOf36 rfl rfl)) rfl ?_
  rcases pxe_eq h with ⟨e13, hr12, h⟩ | ⟨r11, hr12, h⟩
  · refine .opg (G.callx call57 (.cons .g1 (.cons .t0 .nil)) (S_escrow_State_do b5 (⟨a0.Side, a0.Time, a0.Purse, a0.Vault, a0.Nonces, a0.Held, a0.Burnt, r7⟩ : escrow_State) u9 a1 (.er e13) hr12).er (.cons .k0 (.cons .k0 .nil)) .nil ?_) rfl fun _ h_ => h_.elim
    refine .thp ?_
    cases h
    refine .leaveP rfl call56 (S_tryp b1 b3 b4 a0 (⟨0, 0, ⟨⟨⟨0, 0, 0, 0⟩, ⟨0, 0, 0, 0⟩⟩, ⟨⟨0, 0, 0, 0⟩, ⟨0, 0, 0, 0⟩⟩, ⟨⟨0, 0, 0, 0⟩, ⟨0, 0, 0, 0⟩⟩, ⟨⟨0, 0, 0, 0⟩, ⟨0, 0, 0, 0⟩⟩, ⟨⟨0, 0, 0, 0⟩, ⟨0, 0, 0, 0⟩⟩, ⟨⟨0, 0, 0, 0⟩, ⟨0, 0, 0, 0⟩⟩, ⟨⟨0, 0, 0, 0⟩, ⟨0, 0, 0, 0⟩⟩, ⟨⟨0, 0, 0, 0⟩, ⟨0, 0, 0, 0⟩⟩⟩, ⟨⟨⟨0, 0, 0, 0⟩, ⟨0, 0, 0, 0⟩⟩, ⟨⟨0, 0, 0, 0⟩, ⟨0, 0, 0, 0⟩⟩, ⟨⟨0, 0, 0, 0⟩, ⟨0, 0, 0, 0⟩⟩, ⟨⟨0, 0, 0, 0⟩, ⟨0, 0, 0, 0⟩⟩, ⟨⟨0, 0, 0, 0⟩, ⟨0, 0, 0, 0⟩⟩, ⟨⟨0, 0, 0, 0⟩, ⟨0, 0, 0, 0⟩⟩, ⟨⟨0, 0, 0, 0⟩, ⟨0, 0, 0, 0⟩⟩, ⟨⟨0, 0, 0, 0⟩, ⟨0, 0, 0, 0⟩⟩⟩, ⟨0, 0, 0, 0, 0, 0, 0, 0⟩, ⟨⟨0, 0, 0, 0⟩, ⟨0, 0, 0, 0⟩⟩, ⟨0, 0, 0, 0⟩, []⟩ : escrow_State) z0a nilSl 0 e13 hv0) (.cons .k3 (.cons .k1 (.cons .k0 .nil))) .nil rfl ?_
    exact .finD z0a (.r2 rfl (.cell .g2 .k1 (.agg isAgg45 sizeOf45 rfl rfl)) (.cell .g1 .k2 (.one isAgg63 rfl))) trivial (by exact Ls.of (.cons .k4 .nil)) (by exact Rs.nil)
  · refine .opg (G.call call57 (.cons .g1 (.cons .t0 .nil)) (S_escrow_State_do b5 (⟨a0.Side, a0.Time, a0.Purse, a0.Vault, a0.Nonces, a0.Held, a0.Burnt, r7⟩ : escrow_State) u9 a1 (.ok r11) hr12).ok (.cons .k0 (.cons .k0 .nil)) .nil (fun _ _ => rfl) (fun _ _ => rfl) rfl) rfl fun u14 _ => ?_
    refine .drop .k0 ?_
    refine .nil ?_
    refine .then ?_
    refine .seq ?_
    refine .reg rfl ?_
    refine .op (V.ld (v := Ag (escrow_State.cs r11 u14)) .t0 .k0 (.agg isAgg45 sizeOf45 rfl rfl)) rfl ?_
    refine .onel .k1 fun ho15 => ?_
    refine .opg (G.str .t0 .g1 .k3 (.mk (cs' := (escrow_State.cs r11 u14)) sizeOf45 rfl (onez_45 _ ho15) rfl rfl)) rfl fun _ _ => ?_
    refine .opg (G.str .k .g0 .k3 (.mk (cs' := [N 0]) sizeOf63 rfl rfl rfl rfl)) rfl fun _ _ => ?_
    refine .nil ?_
    refine .then ?_
    refine .ret ?_
    cases h
    refine .leaveR rfl call56 (S_tryr b1 b3 b4 a0 r11 z0a u14 0 0 hv0) (.cons .k5 (.cons .k1 (.cons .k0 .nil))) .nil ?_
    exact .finD u14 (.r2 rfl (.cell .g1 .k1 (.agg isAgg45 sizeOf45 rfl rfl)) (.cell .g0 .k2 (.one isAgg63 rfl))) trivial (by exact Ls.of (.cons .k4 .nil)) (by exact Rs.nil)
attribute [irreducible] escrow_State_try
noncomputable def escrow_Apply (a0 : escrow_State) (a1 : api_Tx) : Option (escrow_State × Int × Bool) :=
  Option.bind (slices_Clone_escrow_Lock a0.Locks) fun r4 => if (decide ((txs_Check a1) ≠ 0)) = true then (some (((⟨a0.Side, a0.Time, a0.Purse, a0.Vault, a0.Nonces, a0.Held, a0.Burnt, r4⟩ : escrow_State), (txs_Check a1), false))) else (Option.bind (at_ (A8_i64.list a0.Nonces) a1.From) fun (x10 : Int) => if (decide (a1.Nonce ≠ x10)) = true then (some (((⟨a0.Side, a0.Time, a0.Purse, a0.Vault, a0.Nonces, a0.Held, a0.Burnt, r4⟩ : escrow_State), 20, false))) else (Option.bind (purse_Book_Take a0.Purse a1.From 0 (wide_Of 1)) fun r16 => thn (if (decide (r16.2 ≠ 0)) = true then true else (!(wide_Add a0.Burnt (wide_Of 1)).2)) fun (y20 : Bool) => if y20 = true then (some (((⟨a0.Side, a0.Time, a0.Purse, a0.Vault, a0.Nonces, a0.Held, a0.Burnt, r4⟩ : escrow_State), 21, false))) else (Option.bind (at_ (A8_i64.list a0.Nonces) a1.From) fun (x26 : Int) => Option.bind (at_ (A8_i64.list a0.Nonces) a1.From) fun (x30 : Int) => Option.bind (escrow_State_try (⟨a0.Side, a0.Time, r16.1, a0.Vault, A8_i64.set a0.Nonces (a1.From).toNat (IntKind.i64.wrap (x26 + 1)), a0.Held, (wide_Add a0.Burnt (wide_Of 1)).1, r4⟩ : escrow_State) a1) fun r34 => some (r34.1, r34.2, true))))
set_option maxRecDepth 20000 in
set_option maxHeartbeats 1000000 in
theorem S_escrow_Apply (a0 : escrow_State) (z00a : Value) (a1 : api_Tx) (r : escrow_State × Int × Bool) (h : escrow_Apply a0 a1 = some r) :
    SpecF Tryz.prog 28 [Ag (escrow_State.cs a0 z00a), Ag (api_Tx.cs a1)] [] [rows 3 z00a (a0.Locks.map escrow_Lock.cs)] (fun z : Value => True) (fun z => Tu [Ag (escrow_State.cs r.1 z), N r.2.1, Bo r.2.2]) (fun z M => lst 76 3 z (r.1.Locks.map escrow_Lock.cs) ::  M) (fun z M =>  M) := by
  refine .of func28 rfl ntmps28 rfl fun w0 D0 G0 => ?_
  unfold escrow_Apply at h
  refine .seq ?_
  refine .reg rfl ?_
  refine .opx (X.box (cs := (escrow_State.cs a0 z00a)) .t0 rfl) rfl fun b1 => ?_
  refine .opx (X.box (cs := (api_Tx.cs a1)) .t1 rfl) rfl fun b2 => ?_
  refine .opx (X.alc (cs := (escrow_State.cs ⟨0, 0, ⟨⟨⟨0, 0, 0, 0⟩, ⟨0, 0, 0, 0⟩⟩, ⟨⟨0, 0, 0, 0⟩, ⟨0, 0, 0, 0⟩⟩, ⟨⟨0, 0, 0, 0⟩, ⟨0, 0, 0, 0⟩⟩, ⟨⟨0, 0, 0, 0⟩, ⟨0, 0, 0, 0⟩⟩, ⟨⟨0, 0, 0, 0⟩, ⟨0, 0, 0, 0⟩⟩, ⟨⟨0, 0, 0, 0⟩, ⟨0, 0, 0, 0⟩⟩, ⟨⟨0, 0, 0, 0⟩, ⟨0, 0, 0, 0⟩⟩, ⟨⟨0, 0, 0, 0⟩, ⟨0, 0, 0, 0⟩⟩⟩, ⟨⟨⟨0, 0, 0, 0⟩, ⟨0, 0, 0, 0⟩⟩, ⟨⟨0, 0, 0, 0⟩, ⟨0, 0, 0, 0⟩⟩, ⟨⟨0, 0, 0, 0⟩, ⟨0, 0, 0, 0⟩⟩, ⟨⟨0, 0, 0, 0⟩, ⟨0, 0, 0, 0⟩⟩, ⟨⟨0, 0, 0, 0⟩, ⟨0, 0, 0, 0⟩⟩, ⟨⟨0, 0, 0, 0⟩, ⟨0, 0, 0, 0⟩⟩, ⟨⟨0, 0, 0, 0⟩, ⟨0, 0, 0, 0⟩⟩, ⟨⟨0, 0, 0, 0⟩, ⟨0, 0, 0, 0⟩⟩⟩, ⟨0, 0, 0, 0, 0, 0, 0, 0⟩, ⟨⟨0, 0, 0, 0⟩, ⟨0, 0, 0, 0⟩⟩, ⟨0, 0, 0, 0⟩, []⟩ nilSl)) zeroValue45 rfl) rfl fun b3 => ?_
  refine .op0 (OpP.toV (P.asg .k)) rfl ?_
  refine .op0 (OpP.toV (P.asg .k)) rfl ?_
  refine .nil ?_
  refine .then ?_
  refine .seq ?_
  refine .reg rfl ?_
  refine .opp (P.fa .g2 fa_45_7 rfl) rfl ?_
  refine .op (V.ld (v := z00a) .t0 .k2 (.one isAgg43 rfl)) rfl ?_
  obtain ⟨r4, hr5, h⟩ := bnd_eq h
  refine .opg (G.call call32 (.cons .t0 .nil) (S_slices_Clone_escrow_Lock z00a a0.Locks r4 hr5) .nil (.cons Mm.m0 .nil) (fun _ _ => rfl) (fun _ _ => rfl) rfl) rfl fun u6 _ => ?_
  refine .opp (P.fa .g3 fa_45_7 rfl) rfl ?_
  refine .onel .k0 fun ho7 => ?_
  refine .opg (G.str .t1 .t0 .k3 (.mk1 (cs' := (escrow_State.cs ⟨a0.Side, a0.Time, a0.Purse, a0.Vault, a0.Nonces, a0.Held, a0.Burnt, []⟩ u6)) sizeOf43 rfl ho7 rfl rfl)) rfl fun _ _ => ?_
  refine .nil ?_
  refine .then ?_
  refine .seq ?_
  refine .seq ?_
  refine .reg rfl ?_
  refine .op (V.ld (v := Ag (api_Tx.cs a1)) .g1 .k3 (.agg isAgg36 sizeOf36 rfl rfl)) rfl ?_
  refine .opg (G.call call26 (.cons .t0 .nil) (S_txs_Check a1 _ rfl) .nil .nil (fun _ _ => rfl) (fun _ _ => rfl) rfl) rfl fun _ _ => ?_
  refine .opp (P.asg .t0) rfl ?_
  refine .nil ?_
  refine .then ?_
  refine .seq ?_
  refine .reg rfl ?_
  refine .opp (P.mov .g0) rfl ?_
  refine .opp (P.bin .t0 .k .neq) rfl ?_
  refine .nil ?_
  refine .then ?_
  refine .cond .t0 (fun c8 => ?_) (fun c8 => ?_)
  · rw [if_pos c8] at h
    refine .seq ?_
    refine .reg rfl ?_
    refine .op (V.ld (v := Ag (escrow_State.cs ⟨a0.Side, a0.Time, a0.Purse, a0.Vault, a0.Nonces, a0.Held, a0.Burnt, []⟩ u6)) .t3 .k0 (.agg isAgg45 sizeOf45 rfl rfl)) rfl ?_
    refine .opp (P.mov .t1) rfl ?_
    refine .onel .k1 fun ho9 => ?_
    refine .opg (G.str .t1 .g1 .k2 (.mk (cs' := (escrow_State.cs ⟨a0.Side, a0.Time, a0.Purse, a0.Vault, a0.Nonces, a0.Held, a0.Burnt, []⟩ u6)) sizeOf45 rfl (onez_45 _ ho9) rfl rfl)) rfl fun _ _ => ?_
    refine .opp (P.asg .t0) rfl ?_
    refine .opp (P.asg .k) rfl ?_
    refine .nil ?_
    refine .then ?_
    refine .ret ?_
    refine .thr ?_
    cases h
    exact .finw u6 (.r3 rfl (.cell .g2 .k0 (.agg isAgg45 sizeOf45 rfl rfl)) (.tmp .g1) (.tmp .g0)) trivial (Ls.of (.cons .k2 .nil)) .nil
  · rw [if_neg (ne_true_of_eq_false c8)] at h
    refine .skip ?_
    refine .then ?_
    refine .seq ?_
    refine .seq ?_
    refine .draw 8 (.on 0 .pu (.on 2 .pu (.on 4 .pu (.on 1 .ld (.on 3 .ld (.on 5 .pu (.on 6 .ld (.on 7 .pu .nl)))))))) follows_mixed (.thn (.thn .body)) (by kernel_rfl) ?_
    refine .dpu rfl (.n rfl) (P.fa .g2 fa_36_1 rfl) rfl rfl ?_
    refine .dpu rfl (.n rfl) (P.fa .g3 fa_36_0 rfl) rfl rfl ?_
    refine .dpu rfl (.n rfl) (P.fa .g5 fa_45_4 rfl) rfl rfl ?_
    refine .dld rfl (.n rfl) (V.ld (v := N a1.Nonce) .t2 .k3 (.one isAgg3 rfl)) (fun _ h => h) rfl rfl ?_
    refine .dld rfl (.n rfl) (V.ld (v := N a1.From) .t2 .k3 (.one isAgg3 rfl)) (fun _ h => h) rfl rfl ?_
    obtain ⟨x10, hx11, h⟩ := bnd_eq h
    obtain ⟨i12, hi13, hx11⟩ := at_eq hx11
    have hi13_ : (a1.From).toNat = i12 := by rw [hi13]; rfl
    refine .dpu rfl (.n rfl) (P.iad (i := i12) (off' := (130 + i12 * 1)) .t0 hi13 .t1 runUnderlying42 sizeOf3 (lt_of_get hx11) rfl) rfl rfl ?_
    refine .dld rfl (.n rfl) (V.ld (v := N x10) .t0 .k0 (by rcases i12 with _ | _ | _ | _ | _ | _ | _ | _ | _ <;> first | (obtain rfl := Option.some.inj hx11; exact LdV.one isAgg3 rfl) | (cases hx11; done))) (fun _ h => h) rfl rfl ?_
    refine .dpu rfl (.n rfl) (P.bin .t1 .t0 .neq) rfl rfl ?_
    refine .dnil ?_
    refine .then ?_
    refine .cond .t0 (fun c14 => ?_) (fun c14 => ?_)
    · rw [if_pos c14] at h
      refine .seq ?_
      refine .reg rfl ?_
      refine .op (V.ld (v := Ag (escrow_State.cs ⟨a0.Side, a0.Time, a0.Purse, a0.Vault, a0.Nonces, a0.Held, a0.Burnt, []⟩ u6)) .t3 .k0 (.agg isAgg45 sizeOf45 rfl rfl)) rfl ?_
      refine .onel .k1 fun ho15 => ?_
      refine .opg (G.str .t0 .g1 .k2 (.mk (cs' := (escrow_State.cs ⟨a0.Side, a0.Time, a0.Purse, a0.Vault, a0.Nonces, a0.Held, a0.Burnt, []⟩ u6)) sizeOf45 rfl (onez_45 _ ho15) rfl rfl)) rfl fun _ _ => ?_
      refine .opp (P.asg .k) rfl ?_
      refine .opp (P.asg .k) rfl ?_
      refine .nil ?_
      refine .then ?_
      refine .ret ?_
      refine .thr ?_
      cases h
      exact .finw u6 (.r3 rfl (.cell .g3 .k0 (.agg isAgg45 sizeOf45 rfl rfl)) (.tmp .g1) (.tmp .g0)) trivial (Ls.of (.cons .k2 .nil)) .nil
    · rw [if_neg (ne_true_of_eq_false c14)] at h
      refine .skip ?_
      refine .then ?_
      refine .seq ?_
      obtain ⟨r16, hr17, h⟩ := bnd_eq h
      refine .dcut (γ := Nat) (φ := fun _ => True) (E1 := fun x_ => [(9, N r16.2), (8, pt x_ 0), (4, pt b3 0), (3, pt b2 0), (2, pt b1 0)]) (L1 := fun x_ => [blk x_ 41 (purse_Book.cs r16.1), blk b1 45 (escrow_State.cs ⟨a0.Side, a0.Time, a0.Purse, a0.Vault, a0.Nonces, a0.Held, a0.Burnt, []⟩ u6), lst 76 3 u6 (r4.map escrow_Lock.cs), blk b3 45 (escrow_State.cs ⟨0, 0, ⟨⟨⟨0, 0, 0, 0⟩, ⟨0, 0, 0, 0⟩⟩, ⟨⟨0, 0, 0, 0⟩, ⟨0, 0, 0, 0⟩⟩, ⟨⟨0, 0, 0, 0⟩, ⟨0, 0, 0, 0⟩⟩, ⟨⟨0, 0, 0, 0⟩, ⟨0, 0, 0, 0⟩⟩, ⟨⟨0, 0, 0, 0⟩, ⟨0, 0, 0, 0⟩⟩, ⟨⟨0, 0, 0, 0⟩, ⟨0, 0, 0, 0⟩⟩, ⟨⟨0, 0, 0, 0⟩, ⟨0, 0, 0, 0⟩⟩, ⟨⟨0, 0, 0, 0⟩, ⟨0, 0, 0, 0⟩⟩⟩, ⟨⟨⟨0, 0, 0, 0⟩, ⟨0, 0, 0, 0⟩⟩, ⟨⟨0, 0, 0, 0⟩, ⟨0, 0, 0, 0⟩⟩, ⟨⟨0, 0, 0, 0⟩, ⟨0, 0, 0, 0⟩⟩, ⟨⟨0, 0, 0, 0⟩, ⟨0, 0, 0, 0⟩⟩, ⟨⟨0, 0, 0, 0⟩, ⟨0, 0, 0, 0⟩⟩, ⟨⟨0, 0, 0, 0⟩, ⟨0, 0, 0, 0⟩⟩, ⟨⟨0, 0, 0, 0⟩, ⟨0, 0, 0, 0⟩⟩, ⟨⟨0, 0, 0, 0⟩, ⟨0, 0, 0, 0⟩⟩⟩, ⟨0, 0, 0, 0, 0, 0, 0, 0⟩, ⟨⟨0, 0, 0, 0⟩, ⟨0, 0, 0, 0⟩⟩, ⟨0, 0, 0, 0⟩, []⟩ nilSl), blk b2 36 (api_Tx.cs a1)]) (R1 := fun x_ => [rows 3 z00a (a0.Locks.map escrow_Lock.cs)]) ?_ (fun b18 _ => ?_)
      · refine .draw 12 (.on 0 .pu (.on 2 .pu (.on 1 .ld (.on 3 .ld (.fk 4 9 (.fk 5 9 (.on 6 .pu (.on 7 .pu (.on 8 .pu (.on 9 .go (.on 10 .go (.on 11 .go .nl)))))) (.on 5 .go (.on 6 .pu (.on 7 .pu (.on 8 .pu (.on 10 .go (.on 11 .go .nl))))))) (.on 4 .go (.on 5 .go (.on 6 .pu (.on 7 .pu (.on 8 .pu (.on 10 .go (.on 11 .go .nl)))))))))))) follows_mixed (.thn (.thn .body)) (by kernel_rfl) ?_
        refine .dpu rfl (.n rfl) (P.fa .g3 fa_45_2 rfl) rfl rfl ?_
        refine .dpu rfl (.n rfl) (P.fa .g3 fa_36_0 rfl) rfl rfl ?_
        refine .dld rfl (.n rfl) (V.ld (v := Ag (purse_Book.cs a0.Purse)) .t1 .k0 (.agg isAgg41 sizeOf41 rfl rfl)) (fun _ h => h) rfl rfl ?_
        refine .dld rfl (.n rfl) (V.ld (v := N a1.From) .t1 .k3 (.one isAgg3 rfl)) (fun _ h => h) rfl rfl ?_
        refine .dfk ?_ ?_
        · refine .dgo rfl (.n rfl) (G.call call36 (.cons .k .nil) (S_wide_Of 1 _ rfl) .nil .nil (fun _ _ => rfl) (fun _ _ => rfl) rfl) (.inr fun _ _ _ h => h) fun _ _ => ?_
          refine .dfk ?_ ?_
          · refine .dgo rfl (.n rfl) (G.call call46 (.cons .t2 (.cons .t1 (.cons .k (.cons .t0 .nil)))) (S_purse_Book_Take a0.Purse a1.From 0 (wide_Of 1) r16 hr17) .nil .nil (fun _ _ => rfl) (fun _ _ => rfl) rfl) (.inr fun _ _ _ h => h) fun _ _ => ?_
            refine .dpu rfl (.n rfl) (P.mov .t0) rfl rfl ?_
            refine .dpu rfl (.n rfl) (P.ext (v := Ag (purse_Book.cs r16.1)) .g0 rfl) rfl rfl ?_
            refine .dpu rfl (.n rfl) (P.ext (v := N r16.2) .t1 rfl) rfl rfl ?_
            refine .dgo rfl (.n rfl) (OpX.g (X.alc (cs := (purse_Book.cs ⟨⟨⟨0, 0, 0, 0⟩, ⟨0, 0, 0, 0⟩⟩, ⟨⟨0, 0, 0, 0⟩, ⟨0, 0, 0, 0⟩⟩, ⟨⟨0, 0, 0, 0⟩, ⟨0, 0, 0, 0⟩⟩, ⟨⟨0, 0, 0, 0⟩, ⟨0, 0, 0, 0⟩⟩, ⟨⟨0, 0, 0, 0⟩, ⟨0, 0, 0, 0⟩⟩, ⟨⟨0, 0, 0, 0⟩, ⟨0, 0, 0, 0⟩⟩, ⟨⟨0, 0, 0, 0⟩, ⟨0, 0, 0, 0⟩⟩, ⟨⟨0, 0, 0, 0⟩, ⟨0, 0, 0, 0⟩⟩⟩)) zeroValue41 rfl) rfl) (.inr fun _ _ _ h => (h.imp (Ls.of (.cons .k1 (.cons .k1 (.cons .k1 (.cons .k1 .nil)))))).ro (Rs.cons Mm.m0 Rs.nil)) fun b18 _ => ?_
            refine .dgo rfl (.n rfl) (G.str .t2 .g0 .k0 (.mk (cs' := (purse_Book.cs r16.1)) sizeOf41 rfl rfl rfl rfl)) (.inr fun _ _ _ h => (h.imp (Ls.of (.cons .k1 (.cons .k1 (.cons .k1 (.cons .k1 .nil)))))).ro (Rs.cons Mm.m0 Rs.nil)) fun _ _ => ?_
            refine .dgo rfl (.n rfl) (OpV.g (OpP.toV (P.asg .t1)) rfl) (.inr fun _ _ _ h => (h.imp (Ls.of (.cons .k1 (.cons .k1 (.cons .k1 (.cons .k1 .nil)))))).ro (Rs.cons Mm.m0 Rs.nil)) fun _ _ => ?_
            refine .dnil ?_
            exact .dst b18 trivial (.cons Mm.m0 (.cons Mm.m1 (.cons Mm.m3 (.cons Mm.m4 (.cons Mm.m5 .nil))))) (Ls.of (.cons .k0 (.cons .k0 (.cons .k0 (.cons .k0 (.cons .k0 .nil)))))) (.cons Mm.m0 .nil)
          · refine .dgo rfl (.n rfl) (OpX.g (X.alc (cs := (purse_Book.cs ⟨⟨⟨0, 0, 0, 0⟩, ⟨0, 0, 0, 0⟩⟩, ⟨⟨0, 0, 0, 0⟩, ⟨0, 0, 0, 0⟩⟩, ⟨⟨0, 0, 0, 0⟩, ⟨0, 0, 0, 0⟩⟩, ⟨⟨0, 0, 0, 0⟩, ⟨0, 0, 0, 0⟩⟩, ⟨⟨0, 0, 0, 0⟩, ⟨0, 0, 0, 0⟩⟩, ⟨⟨0, 0, 0, 0⟩, ⟨0, 0, 0, 0⟩⟩, ⟨⟨0, 0, 0, 0⟩, ⟨0, 0, 0, 0⟩⟩, ⟨⟨0, 0, 0, 0⟩, ⟨0, 0, 0, 0⟩⟩⟩)) zeroValue41 rfl) rfl) (.inr fun _ _ _ h => (h.imp (Ls.of (.cons .k1 (.cons .k1 (.cons .k1 (.cons .k1 .nil)))))).ro (Rs.cons Mm.m0 Rs.nil)) fun b18 _ => ?_
            refine .dgo rfl (.n rfl) (G.call call46 (.cons .t3 (.cons .t2 (.cons .k (.cons .t1 .nil)))) (S_purse_Book_Take a0.Purse a1.From 0 (wide_Of 1) r16 hr17) .nil .nil (fun _ _ => rfl) (fun _ _ => rfl) rfl) (.inr fun _ _ _ h => (h.imp (Ls.of (.cons .k1 (.cons .k1 (.cons .k1 (.cons .k1 .nil)))))).ro (Rs.cons Mm.m0 Rs.nil)) fun _ _ => ?_
            refine .dpu rfl (.n rfl) (P.mov .t0) rfl rfl ?_
            refine .dpu rfl (.n rfl) (P.ext (v := Ag (purse_Book.cs r16.1)) .g0 rfl) rfl rfl ?_
            refine .dpu rfl (.n rfl) (P.ext (v := N r16.2) .t1 rfl) rfl rfl ?_
            refine .dgo rfl (.n rfl) (G.str .t1 .g1 .k0 (.mk (cs' := (purse_Book.cs r16.1)) sizeOf41 rfl rfl rfl rfl)) (.inr fun _ _ _ h => (h.imp (Ls.of (.cons .k1 (.cons .k1 (.cons .k1 (.cons .k1 .nil)))))).ro (Rs.cons Mm.m0 Rs.nil)) fun _ _ => ?_
            refine .dgo rfl (.n rfl) (OpV.g (OpP.toV (P.asg .t0)) rfl) (.inr fun _ _ _ h => (h.imp (Ls.of (.cons .k1 (.cons .k1 (.cons .k1 (.cons .k1 .nil)))))).ro (Rs.cons Mm.m0 Rs.nil)) fun _ _ => ?_
            refine .dnil ?_
            exact .dst b18 trivial (.cons Mm.m0 (.cons Mm.m1 (.cons Mm.m3 (.cons Mm.m4 (.cons Mm.m5 .nil))))) (Ls.of (.cons .k0 (.cons .k0 (.cons .k0 (.cons .k0 (.cons .k0 .nil)))))) (.cons Mm.m0 .nil)
        · refine .dgo rfl (.n rfl) (OpX.g (X.alc (cs := (purse_Book.cs ⟨⟨⟨0, 0, 0, 0⟩, ⟨0, 0, 0, 0⟩⟩, ⟨⟨0, 0, 0, 0⟩, ⟨0, 0, 0, 0⟩⟩, ⟨⟨0, 0, 0, 0⟩, ⟨0, 0, 0, 0⟩⟩, ⟨⟨0, 0, 0, 0⟩, ⟨0, 0, 0, 0⟩⟩, ⟨⟨0, 0, 0, 0⟩, ⟨0, 0, 0, 0⟩⟩, ⟨⟨0, 0, 0, 0⟩, ⟨0, 0, 0, 0⟩⟩, ⟨⟨0, 0, 0, 0⟩, ⟨0, 0, 0, 0⟩⟩, ⟨⟨0, 0, 0, 0⟩, ⟨0, 0, 0, 0⟩⟩⟩)) zeroValue41 rfl) rfl) (.inr fun _ _ _ h => (h.imp (Ls.of (.cons .k1 (.cons .k1 (.cons .k1 (.cons .k1 .nil)))))).ro (Rs.cons Mm.m0 Rs.nil)) fun b18 _ => ?_
          refine .dgo rfl (.n rfl) (G.call call36 (.cons .k .nil) (S_wide_Of 1 _ rfl) .nil .nil (fun _ _ => rfl) (fun _ _ => rfl) rfl) (.inr fun _ _ _ h => (h.imp (Ls.of (.cons .k1 (.cons .k1 (.cons .k1 (.cons .k1 .nil)))))).ro (Rs.cons Mm.m0 Rs.nil)) fun _ _ => ?_
          refine .dgo rfl (.n rfl) (G.call call46 (.cons .t3 (.cons .t2 (.cons .k (.cons .t0 .nil)))) (S_purse_Book_Take a0.Purse a1.From 0 (wide_Of 1) r16 hr17) .nil .nil (fun _ _ => rfl) (fun _ _ => rfl) rfl) (.inr fun _ _ _ h => (h.imp (Ls.of (.cons .k1 (.cons .k1 (.cons .k1 (.cons .k1 .nil)))))).ro (Rs.cons Mm.m0 Rs.nil)) fun _ _ => ?_
          refine .dpu rfl (.n rfl) (P.mov .t0) rfl rfl ?_
          refine .dpu rfl (.n rfl) (P.ext (v := Ag (purse_Book.cs r16.1)) .g0 rfl) rfl rfl ?_
          refine .dpu rfl (.n rfl) (P.ext (v := N r16.2) .t1 rfl) rfl rfl ?_
          refine .dgo rfl (.n rfl) (G.str .t1 .g1 .k0 (.mk (cs' := (purse_Book.cs r16.1)) sizeOf41 rfl rfl rfl rfl)) (.inr fun _ _ _ h => (h.imp (Ls.of (.cons .k1 (.cons .k1 (.cons .k1 (.cons .k1 .nil)))))).ro (Rs.cons Mm.m0 Rs.nil)) fun _ _ => ?_
          refine .dgo rfl (.n rfl) (OpV.g (OpP.toV (P.asg .t0)) rfl) (.inr fun _ _ _ h => (h.imp (Ls.of (.cons .k1 (.cons .k1 (.cons .k1 (.cons .k1 .nil)))))).ro (Rs.cons Mm.m0 Rs.nil)) fun _ _ => ?_
          refine .dnil ?_
          exact .dst b18 trivial (.cons Mm.m0 (.cons Mm.m1 (.cons Mm.m3 (.cons Mm.m4 (.cons Mm.m5 .nil))))) (Ls.of (.cons .k0 (.cons .k0 (.cons .k0 (.cons .k0 (.cons .k0 .nil)))))) (.cons Mm.m0 .nil)
      · refine .then ?_
        refine .seq ?_
        refine .dcut (γ := Nat) (φ := fun _ => True) (E1 := fun x_ => [(11, Bo (wide_Add a0.Burnt (wide_Of 1)).2), (10, pt x_ 0), (9, N r16.2), (8, pt b18 0), (4, pt b3 0), (3, pt b2 0), (2, pt b1 0)]) (L1 := fun x_ => [blk x_ 30 (api_Wide.cs (wide_Add a0.Burnt (wide_Of 1)).1), blk b18 41 (purse_Book.cs r16.1), blk b1 45 (escrow_State.cs ⟨a0.Side, a0.Time, a0.Purse, a0.Vault, a0.Nonces, a0.Held, a0.Burnt, []⟩ u6), lst 76 3 u6 (r4.map escrow_Lock.cs), blk b3 45 (escrow_State.cs ⟨0, 0, ⟨⟨⟨0, 0, 0, 0⟩, ⟨0, 0, 0, 0⟩⟩, ⟨⟨0, 0, 0, 0⟩, ⟨0, 0, 0, 0⟩⟩, ⟨⟨0, 0, 0, 0⟩, ⟨0, 0, 0, 0⟩⟩, ⟨⟨0, 0, 0, 0⟩, ⟨0, 0, 0, 0⟩⟩, ⟨⟨0, 0, 0, 0⟩, ⟨0, 0, 0, 0⟩⟩, ⟨⟨0, 0, 0, 0⟩, ⟨0, 0, 0, 0⟩⟩, ⟨⟨0, 0, 0, 0⟩, ⟨0, 0, 0, 0⟩⟩, ⟨⟨0, 0, 0, 0⟩, ⟨0, 0, 0, 0⟩⟩⟩, ⟨⟨⟨0, 0, 0, 0⟩, ⟨0, 0, 0, 0⟩⟩, ⟨⟨0, 0, 0, 0⟩, ⟨0, 0, 0, 0⟩⟩, ⟨⟨0, 0, 0, 0⟩, ⟨0, 0, 0, 0⟩⟩, ⟨⟨0, 0, 0, 0⟩, ⟨0, 0, 0, 0⟩⟩, ⟨⟨0, 0, 0, 0⟩, ⟨0, 0, 0, 0⟩⟩, ⟨⟨0, 0, 0, 0⟩, ⟨0, 0, 0, 0⟩⟩, ⟨⟨0, 0, 0, 0⟩, ⟨0, 0, 0, 0⟩⟩, ⟨⟨0, 0, 0, 0⟩, ⟨0, 0, 0, 0⟩⟩⟩, ⟨0, 0, 0, 0, 0, 0, 0, 0⟩, ⟨⟨0, 0, 0, 0⟩, ⟨0, 0, 0, 0⟩⟩, ⟨0, 0, 0, 0⟩, []⟩ nilSl), blk b2 36 (api_Tx.cs a1)]) (R1 := fun x_ => [rows 3 z00a (a0.Locks.map escrow_Lock.cs)]) ?_ (fun b19 _ => ?_)
        · refine .draw 10 (.on 0 .pu (.on 1 .ld (.fk 2 7 (.fk 3 7 (.on 4 .pu (.on 5 .pu (.on 6 .pu (.on 7 .go (.on 8 .go (.on 9 .go .nl)))))) (.on 3 .go (.on 4 .pu (.on 5 .pu (.on 6 .pu (.on 8 .go (.on 9 .go .nl))))))) (.on 2 .go (.on 3 .go (.on 4 .pu (.on 5 .pu (.on 6 .pu (.on 8 .go (.on 9 .go .nl)))))))))) follows_mixed (.thn (.thn .body)) (by kernel_rfl) ?_
          refine .dpu rfl (.n rfl) (P.fa .g4 fa_45_6 rfl) rfl rfl ?_
          refine .dld rfl (.n rfl) (V.ld (v := Ag (api_Wide.cs a0.Burnt)) .t0 .k1 (.agg isAgg30 sizeOf30 rfl rfl)) (fun _ h => h) rfl rfl ?_
          refine .dfk ?_ ?_
          · refine .dgo rfl (.n rfl) (G.call call36 (.cons .k .nil) (S_wide_Of 1 _ rfl) .nil .nil (fun _ _ => rfl) (fun _ _ => rfl) rfl) (.inr fun _ _ _ h => h) fun _ _ => ?_
            refine .dfk ?_ ?_
            · refine .dgo rfl (.n rfl) (G.call call47 (.cons .t1 (.cons .t0 .nil)) (S_wide_Add a0.Burnt (wide_Of 1) _ rfl) .nil .nil (fun _ _ => rfl) (fun _ _ => rfl) rfl) (.inr fun _ _ _ h => h) fun _ _ => ?_
              refine .dpu rfl (.n rfl) (P.mov .t0) rfl rfl ?_
              refine .dpu rfl (.n rfl) (P.ext (v := Ag (api_Wide.cs (wide_Add a0.Burnt (wide_Of 1)).1)) .g0 rfl) rfl rfl ?_
              refine .dpu rfl (.n rfl) (P.ext (v := Bo (wide_Add a0.Burnt (wide_Of 1)).2) .t1 rfl) rfl rfl ?_
              refine .dgo rfl (.n rfl) (OpX.g (X.alc (cs := (api_Wide.cs ⟨0, 0, 0, 0⟩)) zeroValue30 rfl) rfl) (.inr fun _ _ _ h => (h.imp (Ls.of (.cons .k1 (.cons .k1 (.cons .k1 (.cons .k1 (.cons .k1 .nil))))))).ro (Rs.cons Mm.m0 Rs.nil)) fun b19 _ => ?_
              refine .dgo rfl (.n rfl) (G.str .t2 .g0 .k0 (.mk (cs' := (api_Wide.cs (wide_Add a0.Burnt (wide_Of 1)).1)) sizeOf30 rfl rfl rfl rfl)) (.inr fun _ _ _ h => (h.imp (Ls.of (.cons .k1 (.cons .k1 (.cons .k1 (.cons .k1 (.cons .k1 .nil))))))).ro (Rs.cons Mm.m0 Rs.nil)) fun _ _ => ?_
              refine .dgo rfl (.n rfl) (OpV.g (OpP.toV (P.asg .t1)) rfl) (.inr fun _ _ _ h => (h.imp (Ls.of (.cons .k1 (.cons .k1 (.cons .k1 (.cons .k1 (.cons .k1 .nil))))))).ro (Rs.cons Mm.m0 Rs.nil)) fun _ _ => ?_
              refine .dnil ?_
              exact .dst b19 trivial (.cons Mm.m0 (.cons Mm.m1 (.cons Mm.m2 (.cons Mm.m3 (.cons Mm.m4 (.cons Mm.m5 (.cons Mm.m6 .nil))))))) (Ls.of (.cons .k0 (.cons .k0 (.cons .k0 (.cons .k0 (.cons .k0 (.cons .k0 .nil))))))) (.cons Mm.m0 .nil)
            · refine .dgo rfl (.n rfl) (OpX.g (X.alc (cs := (api_Wide.cs ⟨0, 0, 0, 0⟩)) zeroValue30 rfl) rfl) (.inr fun _ _ _ h => (h.imp (Ls.of (.cons .k1 (.cons .k1 (.cons .k1 (.cons .k1 (.cons .k1 .nil))))))).ro (Rs.cons Mm.m0 Rs.nil)) fun b19 _ => ?_
              refine .dgo rfl (.n rfl) (G.call call47 (.cons .t2 (.cons .t1 .nil)) (S_wide_Add a0.Burnt (wide_Of 1) _ rfl) .nil .nil (fun _ _ => rfl) (fun _ _ => rfl) rfl) (.inr fun _ _ _ h => (h.imp (Ls.of (.cons .k1 (.cons .k1 (.cons .k1 (.cons .k1 (.cons .k1 .nil))))))).ro (Rs.cons Mm.m0 Rs.nil)) fun _ _ => ?_
              refine .dpu rfl (.n rfl) (P.mov .t0) rfl rfl ?_
              refine .dpu rfl (.n rfl) (P.ext (v := Ag (api_Wide.cs (wide_Add a0.Burnt (wide_Of 1)).1)) .g0 rfl) rfl rfl ?_
              refine .dpu rfl (.n rfl) (P.ext (v := Bo (wide_Add a0.Burnt (wide_Of 1)).2) .t1 rfl) rfl rfl ?_
              refine .dgo rfl (.n rfl) (G.str .t1 .g1 .k0 (.mk (cs' := (api_Wide.cs (wide_Add a0.Burnt (wide_Of 1)).1)) sizeOf30 rfl rfl rfl rfl)) (.inr fun _ _ _ h => (h.imp (Ls.of (.cons .k1 (.cons .k1 (.cons .k1 (.cons .k1 (.cons .k1 .nil))))))).ro (Rs.cons Mm.m0 Rs.nil)) fun _ _ => ?_
              refine .dgo rfl (.n rfl) (OpV.g (OpP.toV (P.asg .t0)) rfl) (.inr fun _ _ _ h => (h.imp (Ls.of (.cons .k1 (.cons .k1 (.cons .k1 (.cons .k1 (.cons .k1 .nil))))))).ro (Rs.cons Mm.m0 Rs.nil)) fun _ _ => ?_
              refine .dnil ?_
              exact .dst b19 trivial (.cons Mm.m0 (.cons Mm.m1 (.cons Mm.m2 (.cons Mm.m3 (.cons Mm.m4 (.cons Mm.m5 (.cons Mm.m6 .nil))))))) (Ls.of (.cons .k0 (.cons .k0 (.cons .k0 (.cons .k0 (.cons .k0 (.cons .k0 .nil))))))) (.cons Mm.m0 .nil)
          · refine .dgo rfl (.n rfl) (OpX.g (X.alc (cs := (api_Wide.cs ⟨0, 0, 0, 0⟩)) zeroValue30 rfl) rfl) (.inr fun _ _ _ h => (h.imp (Ls.of (.cons .k1 (.cons .k1 (.cons .k1 (.cons .k1 (.cons .k1 .nil))))))).ro (Rs.cons Mm.m0 Rs.nil)) fun b19 _ => ?_
            refine .dgo rfl (.n rfl) (G.call call36 (.cons .k .nil) (S_wide_Of 1 _ rfl) .nil .nil (fun _ _ => rfl) (fun _ _ => rfl) rfl) (.inr fun _ _ _ h => (h.imp (Ls.of (.cons .k1 (.cons .k1 (.cons .k1 (.cons .k1 (.cons .k1 .nil))))))).ro (Rs.cons Mm.m0 Rs.nil)) fun _ _ => ?_
            refine .dgo rfl (.n rfl) (G.call call47 (.cons .t2 (.cons .t0 .nil)) (S_wide_Add a0.Burnt (wide_Of 1) _ rfl) .nil .nil (fun _ _ => rfl) (fun _ _ => rfl) rfl) (.inr fun _ _ _ h => (h.imp (Ls.of (.cons .k1 (.cons .k1 (.cons .k1 (.cons .k1 (.cons .k1 .nil))))))).ro (Rs.cons Mm.m0 Rs.nil)) fun _ _ => ?_
            refine .dpu rfl (.n rfl) (P.mov .t0) rfl rfl ?_
            refine .dpu rfl (.n rfl) (P.ext (v := Ag (api_Wide.cs (wide_Add a0.Burnt (wide_Of 1)).1)) .g0 rfl) rfl rfl ?_
            refine .dpu rfl (.n rfl) (P.ext (v := Bo (wide_Add a0.Burnt (wide_Of 1)).2) .t1 rfl) rfl rfl ?_
            refine .dgo rfl (.n rfl) (G.str .t1 .g1 .k0 (.mk (cs' := (api_Wide.cs (wide_Add a0.Burnt (wide_Of 1)).1)) sizeOf30 rfl rfl rfl rfl)) (.inr fun _ _ _ h => (h.imp (Ls.of (.cons .k1 (.cons .k1 (.cons .k1 (.cons .k1 (.cons .k1 .nil))))))).ro (Rs.cons Mm.m0 Rs.nil)) fun _ _ => ?_
            refine .dgo rfl (.n rfl) (OpV.g (OpP.toV (P.asg .t0)) rfl) (.inr fun _ _ _ h => (h.imp (Ls.of (.cons .k1 (.cons .k1 (.cons .k1 (.cons .k1 (.cons .k1 .nil))))))).ro (Rs.cons Mm.m0 Rs.nil)) fun _ _ => ?_
            refine .dnil ?_
            exact .dst b19 trivial (.cons Mm.m0 (.cons Mm.m1 (.cons Mm.m2 (.cons Mm.m3 (.cons Mm.m4 (.cons Mm.m5 (.cons Mm.m6 .nil))))))) (Ls.of (.cons .k0 (.cons .k0 (.cons .k0 (.cons .k0 (.cons .k0 (.cons .k0 .nil))))))) (.cons Mm.m0 .nil)
        · refine .then ?_
          refine .seq ?_
          obtain ⟨y20, hj22, h⟩ := thn_eq h
          refine .cutx (γ := Unit) (E1 := fun z21 => [(53, Bo y20), (10, pt b19 0), (8, pt b18 0), (4, pt b3 0), (3, pt b2 0), (2, pt b1 0)]) (L1 := fun z21 => [blk b19 30 (api_Wide.cs (wide_Add a0.Burnt (wide_Of 1)).1), blk b18 41 (purse_Book.cs r16.1), blk b3 45 (escrow_State.cs ⟨0, 0, ⟨⟨⟨0, 0, 0, 0⟩, ⟨0, 0, 0, 0⟩⟩, ⟨⟨0, 0, 0, 0⟩, ⟨0, 0, 0, 0⟩⟩, ⟨⟨0, 0, 0, 0⟩, ⟨0, 0, 0, 0⟩⟩, ⟨⟨0, 0, 0, 0⟩, ⟨0, 0, 0, 0⟩⟩, ⟨⟨0, 0, 0, 0⟩, ⟨0, 0, 0, 0⟩⟩, ⟨⟨0, 0, 0, 0⟩, ⟨0, 0, 0, 0⟩⟩, ⟨⟨0, 0, 0, 0⟩, ⟨0, 0, 0, 0⟩⟩, ⟨⟨0, 0, 0, 0⟩, ⟨0, 0, 0, 0⟩⟩⟩, ⟨⟨⟨0, 0, 0, 0⟩, ⟨0, 0, 0, 0⟩⟩, ⟨⟨0, 0, 0, 0⟩, ⟨0, 0, 0, 0⟩⟩, ⟨⟨0, 0, 0, 0⟩, ⟨0, 0, 0, 0⟩⟩, ⟨⟨0, 0, 0, 0⟩, ⟨0, 0, 0, 0⟩⟩, ⟨⟨0, 0, 0, 0⟩, ⟨0, 0, 0, 0⟩⟩, ⟨⟨0, 0, 0, 0⟩, ⟨0, 0, 0, 0⟩⟩, ⟨⟨0, 0, 0, 0⟩, ⟨0, 0, 0, 0⟩⟩, ⟨⟨0, 0, 0, 0⟩, ⟨0, 0, 0, 0⟩⟩⟩, ⟨0, 0, 0, 0, 0, 0, 0, 0⟩, ⟨⟨0, 0, 0, 0⟩, ⟨0, 0, 0, 0⟩⟩, ⟨0, 0, 0, 0⟩, []⟩ nilSl), blk b2 36 (api_Tx.cs a1), blk b1 45 (escrow_State.cs ⟨a0.Side, a0.Time, a0.Purse, a0.Vault, a0.Nonces, a0.Held, a0.Burnt, r4⟩ u6), lst 76 3 u6 (r4.map escrow_Lock.cs)]) (R1 := fun z21 => [rows 3 z00a (a0.Locks.map escrow_Lock.cs)]) ?_ (fun z21 => ?_)
          · clear h
            refine .reg rfl ?_
            refine .opp (P.mov .t2) rfl ?_
            refine .opp (P.bin .t0 .k .neq) rfl ?_
            refine .opp (P.mov .t0) rfl ?_
            refine .split .k0 (fun c23 => ?_) (fun c23 => ?_)
            · rw [if_pos c23] at hj22
              refine .gno rfl .g0 rfl rfl ?_
              refine .gno rfl .g0 rfl rfl ?_
              refine .opp (P.pickT .t0 .k) rfl ?_
              refine .nil ?_
              subst hj22
              exact .stj () (.cons Mm.m0 (.cons Mm.m2 (.cons Mm.m3 (.cons Mm.m4 (.cons Mm.m5 (.cons Mm.m6 .nil)))))) (.of (.cons .k0 (.cons .k0 (.cons .k2 (.cons .k2 (.cons .k0 (.cons .k0 .nil))))))) (.cons Mm.m0 .nil)
            · rw [if_neg (ne_true_of_eq_false c23)] at hj22
              refine .gyes rfl .g0 ?_
              refine .opp (P.mov .t1) rfl ?_
              refine .gyes rfl .g1 ?_
              refine .opp (P.not .t0) rfl ?_
              refine .opp (P.pickF .t1 .t0) rfl ?_
              refine .nil ?_
              subst hj22
              exact .stj () (.cons Mm.m0 (.cons Mm.m1 (.cons Mm.m2 (.cons Mm.m3 (.cons Mm.m4 (.cons Mm.m5 .nil)))))) (.of (.cons .k0 (.cons .k0 (.cons .k2 (.cons .k2 (.cons .k0 (.cons .k0 .nil))))))) (.cons Mm.m0 .nil)
          · clear hj22
            refine .cond .t0 (fun c24 => ?_) (fun c24 => ?_)
            · rw [if_pos c24] at h
              refine .seq ?_
              refine .reg rfl ?_
              refine .op (V.ld (v := Ag (escrow_State.cs ⟨a0.Side, a0.Time, a0.Purse, a0.Vault, a0.Nonces, a0.Held, a0.Burnt, r4⟩ u6)) .t4 .k4 (.agg isAgg45 sizeOf45 rfl rfl)) rfl ?_
              refine .onel .k5 fun ho25 => ?_
              refine .opg (G.str .t0 .g2 .k2 (.mk (cs' := (escrow_State.cs ⟨a0.Side, a0.Time, a0.Purse, a0.Vault, a0.Nonces, a0.Held, a0.Burnt, r4⟩ u6)) sizeOf45 rfl (onez_45 _ ho25) rfl rfl)) rfl fun _ _ => ?_
              refine .opp (P.asg .k) rfl ?_
              refine .opp (P.asg .k) rfl ?_
              refine .nil ?_
              refine .then ?_
              refine .ret ?_
              refine .thr ?_
              cases h
              exact .finw u6 (.r3 rfl (.cell .g4 .k0 (.agg isAgg45 sizeOf45 rfl rfl)) (.tmp .g1) (.tmp .g0)) trivial (Ls.of (.cons .k5 .nil)) .nil
            · rw [if_neg (ne_true_of_eq_false c24)] at h
              refine .skip ?_
              refine .then ?_
              refine .seq ?_
              refine .drawl [blk b19 30 (api_Wide.cs (wide_Add a0.Burnt (wide_Of 1)).1), blk b18 41 (purse_Book.cs r16.1), blk b3 45 (escrow_State.cs ⟨0, 0, ⟨⟨⟨0, 0, 0, 0⟩, ⟨0, 0, 0, 0⟩⟩, ⟨⟨0, 0, 0, 0⟩, ⟨0, 0, 0, 0⟩⟩, ⟨⟨0, 0, 0, 0⟩, ⟨0, 0, 0, 0⟩⟩, ⟨⟨0, 0, 0, 0⟩, ⟨0, 0, 0, 0⟩⟩, ⟨⟨0, 0, 0, 0⟩, ⟨0, 0, 0, 0⟩⟩, ⟨⟨0, 0, 0, 0⟩, ⟨0, 0, 0, 0⟩⟩, ⟨⟨0, 0, 0, 0⟩, ⟨0, 0, 0, 0⟩⟩, ⟨⟨0, 0, 0, 0⟩, ⟨0, 0, 0, 0⟩⟩⟩, ⟨⟨⟨0, 0, 0, 0⟩, ⟨0, 0, 0, 0⟩⟩, ⟨⟨0, 0, 0, 0⟩, ⟨0, 0, 0, 0⟩⟩, ⟨⟨0, 0, 0, 0⟩, ⟨0, 0, 0, 0⟩⟩, ⟨⟨0, 0, 0, 0⟩, ⟨0, 0, 0, 0⟩⟩, ⟨⟨0, 0, 0, 0⟩, ⟨0, 0, 0, 0⟩⟩, ⟨⟨0, 0, 0, 0⟩, ⟨0, 0, 0, 0⟩⟩, ⟨⟨0, 0, 0, 0⟩, ⟨0, 0, 0, 0⟩⟩, ⟨⟨0, 0, 0, 0⟩, ⟨0, 0, 0, 0⟩⟩⟩, ⟨0, 0, 0, 0, 0, 0, 0, 0⟩, ⟨⟨0, 0, 0, 0⟩, ⟨0, 0, 0, 0⟩⟩, ⟨0, 0, 0, 0⟩, []⟩ nilSl), blk b2 36 (api_Tx.cs a1), lst 76 3 u6 (r4.map escrow_Lock.cs)] [rows 3 z00a (a0.Locks.map escrow_Lock.cs)] (Ls.of (.cons .k0 (.cons .k0 (.cons .k0 (.cons .k0 (.cons .k1 .nil)))))) (Rs.cons Mm.m0 Rs.nil) 6 (.on 0 .ld (.on 2 .pu (.on 1 .ld (.on 3 .go (.on 4 .pu (.on 5 .go .nl)))))) follows_mixed (.thn .body) (by kernel_rfl) ?_
              refine .dld rfl (.n rfl) (V.ld (v := Ag (purse_Book.cs r16.1)) .t1 .k1 (.agg isAgg41 sizeOf41 rfl rfl)) (fun _ h => (h.imp (Ls.of (.cons .k0 (.cons .k0 (.cons .k0 (.cons .k0 (.cons .k1 .nil))))))).ro (Rs.cons Mm.m0 Rs.nil)) rfl rfl ?_
              refine .dpu rfl (.n rfl) (P.fa .g4 fa_45_2 rfl) rfl rfl ?_
              refine .dld rfl (.n rfl) (V.ld (v := Ag (api_Wide.cs (wide_Add a0.Burnt (wide_Of 1)).1)) .t2 .k0 (.agg isAgg30 sizeOf30 rfl rfl)) (fun _ h => (h.imp (Ls.of (.cons .k0 (.cons .k0 (.cons .k0 (.cons .k0 (.cons .k1 .nil))))))).ro (Rs.cons Mm.m0 Rs.nil)) rfl rfl ?_
              refine .dgo rfl (.n rfl) (G.str .t2 .t1 .k4 (.mk (cs' := (escrow_State.cs ⟨a0.Side, a0.Time, r16.1, a0.Vault, a0.Nonces, a0.Held, a0.Burnt, r4⟩ u6)) sizeOf41 rfl rfl rfl rfl)) (.inr fun _ _ _ h => (h.imp (Ls.of (.cons .k1 (.cons .k1 (.cons .k1 (.cons .k1 (.cons .k1 .nil))))))).ro (Rs.cons Mm.m0 Rs.nil)) fun _ _ => ?_
              refine .dpu rfl (.n rfl) (P.fa .g3 fa_45_6 rfl) rfl rfl ?_
              refine .dgo rfl (.n rfl) (G.str .t1 .t0 .k0 (.mk (cs' := (escrow_State.cs ⟨a0.Side, a0.Time, r16.1, a0.Vault, a0.Nonces, a0.Held, (wide_Add a0.Burnt (wide_Of 1)).1, r4⟩ u6)) sizeOf30 rfl rfl rfl rfl)) (.inr fun _ _ _ h => (h.imp (Ls.of (.cons .k1 (.cons .k1 (.cons .k1 (.cons .k1 (.cons .k1 .nil))))))).ro (Rs.cons Mm.m0 Rs.nil)) fun _ _ => ?_
              refine .dnil ?_
              refine .then ?_
              refine .seq ?_
              refine .reg rfl ?_
              refine .opp (P.fa .g1 fa_36_0 rfl) rfl ?_
              refine .op (V.ld (v := N a1.From) .t0 .k4 (.one isAgg3 rfl)) rfl ?_
              refine .opp (P.fa .g3 fa_45_4 rfl) rfl ?_
              obtain ⟨x26, hx27, h⟩ := bnd_eq h
              obtain ⟨i28, hi29, hx27⟩ := at_eq hx27
              have hi29_ : (a1.From).toNat = i28 := by rw [hi29]; rfl
              refine .opp (P.iad (i := i28) (off' := (130 + i28 * 1)) .g1 hi29 .t0 runUnderlying42 sizeOf3 (lt_of_get hx27) rfl) rfl ?_
              refine .op (V.ld (v := N x26) .t0 .k0 (by rcases i28 with _ | _ | _ | _ | _ | _ | _ | _ | _ <;> first | (obtain rfl := Option.some.inj hx27; exact LdV.one isAgg3 rfl) | (cases hx27; done))) rfl ?_
              refine .opp (P.bin .t0 .k .add) rfl ?_
              refine .opp (P.fa .g4 fa_45_4 rfl) rfl ?_
              obtain ⟨x30, hx31, h⟩ := bnd_eq h
              obtain ⟨i32, hi33, hx31⟩ := at_eq hx31
              have hi33_ : (a1.From).toNat = i32 := by rw [hi33]; rfl
              refine .opp (P.iad (i := i32) (off' := (130 + i32 * 1)) .t2 hi33 .t0 runUnderlying42 sizeOf3 (lt_of_get hx31) rfl) rfl ?_
              refine .opg (G.str (cs' := (escrow_State.cs ⟨a0.Side, a0.Time, r16.1, a0.Vault, A8_i64.set a0.Nonces i32 (IntKind.i64.wrap (x26 + 1)), a0.Held, (wide_Add a0.Burnt (wide_Of 1)).1, r4⟩ u6)) .t1 .t0 .k0 (by rcases i32 with _ | _ | _ | _ | _ | _ | _ | _ | _ <;> first | (obtain rfl := Option.some.inj hx31; exact StV.mk sizeOf3 rfl rfl rfl rfl) | (cases hx31; done))) rfl fun _ _ => ?_
              refine .conseq .k0 (q := blk b1 45 (escrow_State.cs ⟨a0.Side, a0.Time, r16.1, a0.Vault, A8_i64.set a0.Nonces (a1.From).toNat (IntKind.i64.wrap (x26 + 1)), a0.Held, (wide_Add a0.Burnt (wide_Of 1)).1, r4⟩ u6)) (fun _ h_ => by rw [hi33_]; exact h_) ?_
              refine .nil ?_
              refine .then ?_
              refine .seq ?_
              refine .reg rfl ?_
              refine .op (V.ld (v := Ag (escrow_State.cs ⟨a0.Side, a0.Time, r16.1, a0.Vault, A8_i64.set a0.Nonces (a1.From).toNat (IntKind.i64.wrap (x26 + 1)), a0.Held, (wide_Add a0.Burnt (wide_Of 1)).1, r4⟩ u6)) .t2 .k0 (.agg isAgg45 sizeOf45 rfl rfl)) rfl ?_
              refine .op (V.ld (v := Ag (api_Tx.cs a1)) .t2 .k4 (.agg isAgg36 sizeOf36 rfl rfl)) rfl ?_
              obtain ⟨r34, hr35, h⟩ := bnd_eq h
              refine .opg (G.call call48 (.cons .t1 (.cons .t0 .nil)) (S_escrow_State_try (⟨a0.Side, a0.Time, r16.1, a0.Vault, A8_i64.set a0.Nonces (a1.From).toNat (IntKind.i64.wrap (x26 + 1)), a0.Held, (wide_Add a0.Burnt (wide_Of 1)).1, r4⟩ : escrow_State) u6 a1 r34 hr35) (.cons .k5 .nil) .nil (fun _ _ => rfl) (fun _ _ => rfl) rfl) rfl fun u36 _ => ?_
              refine .opp (P.mov .t0) rfl ?_
              refine .opp (P.ext (v := Ag (escrow_State.cs r34.1 u36)) .g0 rfl) rfl ?_
              refine .opp (P.ext (v := N r34.2) .t1 rfl) rfl ?_
              refine .opx (X.alc (cs := (escrow_State.cs ⟨0, 0, ⟨⟨⟨0, 0, 0, 0⟩, ⟨0, 0, 0, 0⟩⟩, ⟨⟨0, 0, 0, 0⟩, ⟨0, 0, 0, 0⟩⟩, ⟨⟨0, 0, 0, 0⟩, ⟨0, 0, 0, 0⟩⟩, ⟨⟨0, 0, 0, 0⟩, ⟨0, 0, 0, 0⟩⟩, ⟨⟨0, 0, 0, 0⟩, ⟨0, 0, 0, 0⟩⟩, ⟨⟨0, 0, 0, 0⟩, ⟨0, 0, 0, 0⟩⟩, ⟨⟨0, 0, 0, 0⟩, ⟨0, 0, 0, 0⟩⟩, ⟨⟨0, 0, 0, 0⟩, ⟨0, 0, 0, 0⟩⟩⟩, ⟨⟨⟨0, 0, 0, 0⟩, ⟨0, 0, 0, 0⟩⟩, ⟨⟨0, 0, 0, 0⟩, ⟨0, 0, 0, 0⟩⟩, ⟨⟨0, 0, 0, 0⟩, ⟨0, 0, 0, 0⟩⟩, ⟨⟨0, 0, 0, 0⟩, ⟨0, 0, 0, 0⟩⟩, ⟨⟨0, 0, 0, 0⟩, ⟨0, 0, 0, 0⟩⟩, ⟨⟨0, 0, 0, 0⟩, ⟨0, 0, 0, 0⟩⟩, ⟨⟨0, 0, 0, 0⟩, ⟨0, 0, 0, 0⟩⟩, ⟨⟨0, 0, 0, 0⟩, ⟨0, 0, 0, 0⟩⟩⟩, ⟨0, 0, 0, 0, 0, 0, 0, 0⟩, ⟨⟨0, 0, 0, 0⟩, ⟨0, 0, 0, 0⟩⟩, ⟨0, 0, 0, 0⟩, []⟩ nilSl)) zeroValue45 rfl) rfl fun b37 => ?_
              refine .onel .k1 fun ho38 => ?_
              refine .opg (G.str .t2 .g0 .k0 (.mk (cs' := (escrow_State.cs r34.1 u36)) sizeOf45 rfl (onez_45 _ ho38) rfl rfl)) rfl fun _ _ => ?_
              refine .opp (P.asg .t1) rfl ?_
              refine .nil ?_
              refine .then ?_
              refine .seq ?_
              refine .reg rfl ?_
              refine .op (V.ld (v := Ag (escrow_State.cs r34.1 u36)) .t1 .k0 (.agg isAgg45 sizeOf45 rfl rfl)) rfl ?_
              refine .opp (P.mov .t1) rfl ?_
              refine .onel .k1 fun ho39 => ?_
              refine .opg (G.str .t1 .g1 .k5 (.mk (cs' := (escrow_State.cs r34.1 u36)) sizeOf45 rfl (onez_45 _ ho39) rfl rfl)) rfl fun _ _ => ?_
              refine .opp (P.asg .t0) rfl ?_
              refine .opp (P.asg .k) rfl ?_
              refine .nil ?_
              refine .then ?_
              refine .ret ?_
              cases h
              exact .finw u36 (.r3 rfl (.cell .g2 .k0 (.agg isAgg45 sizeOf45 rfl rfl)) (.tmp .g1) (.tmp .g0)) trivial (Ls.of (.cons .k2 .nil)) .nil
attribute [irreducible] escrow_Apply
noncomputable def replay_step (a0 : escrow_State) (a1 : api_Event) : Option (escrow_State × Bool) :=
  Option.bind (escrow_Rise a0 (IntKind.i64.wrap ((if a0.Time > a1.Time then a0.Time else a1.Time) - a0.Time))) fun r4 => Option.bind (escrow_Apply r4 a1.Tx) fun r9 => thn (if (!r9.2.2) = true then true else (decide (r9.2.1 ≠ a1.Code))) fun (y14 : Bool) => if y14 = true then (some (a0, false)) else (some (r9.1, true))
set_option maxRecDepth 20000 in
set_option maxHeartbeats 1000000 in
theorem S_replay_step (a0 : escrow_State) (z00a : Value) (a1 : api_Event) (r : escrow_State × Bool) (h : replay_step a0 a1 = some r) :
    SpecF Tryz.prog 30 [Ag (escrow_State.cs a0 z00a), Ag (api_Event.cs a1)] [] [rows 3 z00a (a0.Locks.map escrow_Lock.cs)] (fun z : Value => True) (fun z => Tu [Ag (escrow_State.cs r.1 z), Bo r.2]) (fun z M =>  M) (fun z M => rows 3 z (r.1.Locks.map escrow_Lock.cs) ::  M) := by
  refine .of func30 rfl ntmps30 rfl fun w0 D0 G0 => ?_
  unfold replay_step at h
  refine .seq ?_
  refine .reg rfl ?_
  refine .opx (X.box (cs := (escrow_State.cs a0 z00a)) .t0 rfl) rfl fun b1 => ?_
  refine .opx (X.box (cs := (api_Event.cs a1)) .t1 rfl) rfl fun b2 => ?_
  refine .opx (X.alc (cs := (escrow_State.cs ⟨0, 0, ⟨⟨⟨0, 0, 0, 0⟩, ⟨0, 0, 0, 0⟩⟩, ⟨⟨0, 0, 0, 0⟩, ⟨0, 0, 0, 0⟩⟩, ⟨⟨0, 0, 0, 0⟩, ⟨0, 0, 0, 0⟩⟩, ⟨⟨0, 0, 0, 0⟩, ⟨0, 0, 0, 0⟩⟩, ⟨⟨0, 0, 0, 0⟩, ⟨0, 0, 0, 0⟩⟩, ⟨⟨0, 0, 0, 0⟩, ⟨0, 0, 0, 0⟩⟩, ⟨⟨0, 0, 0, 0⟩, ⟨0, 0, 0, 0⟩⟩, ⟨⟨0, 0, 0, 0⟩, ⟨0, 0, 0, 0⟩⟩⟩, ⟨⟨⟨0, 0, 0, 0⟩, ⟨0, 0, 0, 0⟩⟩, ⟨⟨0, 0, 0, 0⟩, ⟨0, 0, 0, 0⟩⟩, ⟨⟨0, 0, 0, 0⟩, ⟨0, 0, 0, 0⟩⟩, ⟨⟨0, 0, 0, 0⟩, ⟨0, 0, 0, 0⟩⟩, ⟨⟨0, 0, 0, 0⟩, ⟨0, 0, 0, 0⟩⟩, ⟨⟨0, 0, 0, 0⟩, ⟨0, 0, 0, 0⟩⟩, ⟨⟨0, 0, 0, 0⟩, ⟨0, 0, 0, 0⟩⟩, ⟨⟨0, 0, 0, 0⟩, ⟨0, 0, 0, 0⟩⟩⟩, ⟨0, 0, 0, 0, 0, 0, 0, 0⟩, ⟨⟨0, 0, 0, 0⟩, ⟨0, 0, 0, 0⟩⟩, ⟨0, 0, 0, 0⟩, []⟩ nilSl)) zeroValue45 rfl) rfl fun b3 => ?_
  refine .op0 (OpP.toV (P.asg .k)) rfl ?_
  refine .nil ?_
  refine .then ?_
  refine .seq ?_
  refine .reg rfl ?_
  refine .op (V.ld (v := Ag (escrow_State.cs a0 z00a)) .g2 .k2 (.agg isAgg45 sizeOf45 rfl rfl)) rfl ?_
  refine .opp (P.fa .g2 fa_70_0 rfl) rfl ?_
  refine .op (V.ld (v := N a1.Time) .t0 .k1 (.one isAgg3 rfl)) rfl ?_
  refine .opp (P.fa .g4 fa_45_1 rfl) rfl ?_
  refine .op (V.ld (v := N a0.Time) .t0 .k2 (.one isAgg3 rfl)) rfl ?_
  refine .opp (P.max2 .t1 .t0) rfl ?_
  refine .opp (P.fa .g4 fa_45_1 rfl) rfl ?_
  refine .op (V.ld (v := N a0.Time) .t0 .k2 (.one isAgg3 rfl)) rfl ?_
  refine .opp (P.bin .t1 .t0 .sub) rfl ?_
  obtain ⟨r4, hr5, h⟩ := bnd_eq h
  refine .opg (G.call call14 (.cons .t1 (.cons .t0 .nil)) (S_escrow_Rise a0 z00a (IntKind.i64.wrap ((if a0.Time > a1.Time then a0.Time else a1.Time) - a0.Time)) r4 hr5) .nil (.cons Mm.m0 .nil) (fun _ _ => rfl) (fun _ _ => rfl) rfl) rfl fun u6 _ => ?_
  refine .opx (X.alc (cs := (escrow_State.cs ⟨0, 0, ⟨⟨⟨0, 0, 0, 0⟩, ⟨0, 0, 0, 0⟩⟩, ⟨⟨0, 0, 0, 0⟩, ⟨0, 0, 0, 0⟩⟩, ⟨⟨0, 0, 0, 0⟩, ⟨0, 0, 0, 0⟩⟩, ⟨⟨0, 0, 0, 0⟩, ⟨0, 0, 0, 0⟩⟩, ⟨⟨0, 0, 0, 0⟩, ⟨0, 0, 0, 0⟩⟩, ⟨⟨0, 0, 0, 0⟩, ⟨0, 0, 0, 0⟩⟩, ⟨⟨0, 0, 0, 0⟩, ⟨0, 0, 0, 0⟩⟩, ⟨⟨0, 0, 0, 0⟩, ⟨0, 0, 0, 0⟩⟩⟩, ⟨⟨⟨0, 0, 0, 0⟩, ⟨0, 0, 0, 0⟩⟩, ⟨⟨0, 0, 0, 0⟩, ⟨0, 0, 0, 0⟩⟩, ⟨⟨0, 0, 0, 0⟩, ⟨0, 0, 0, 0⟩⟩, ⟨⟨0, 0, 0, 0⟩, ⟨0, 0, 0, 0⟩⟩, ⟨⟨0, 0, 0, 0⟩, ⟨0, 0, 0, 0⟩⟩, ⟨⟨0, 0, 0, 0⟩, ⟨0, 0, 0, 0⟩⟩, ⟨⟨0, 0, 0, 0⟩, ⟨0, 0, 0, 0⟩⟩, ⟨⟨0, 0, 0, 0⟩, ⟨0, 0, 0, 0⟩⟩⟩, ⟨0, 0, 0, 0, 0, 0, 0, 0⟩, ⟨⟨0, 0, 0, 0⟩, ⟨0, 0, 0, 0⟩⟩, ⟨0, 0, 0, 0⟩, []⟩ nilSl)) zeroValue45 rfl) rfl fun b7 => ?_
  refine .onel .k1 fun ho8 => ?_
  refine .opg (G.str .t1 .g0 .k0 (.mk (cs' := (escrow_State.cs r4 u6)) sizeOf45 rfl (onez_45 _ ho8) rfl rfl)) rfl fun _ _ => ?_
  refine .nil ?_
  refine .then ?_
  refine .seq ?_
  refine .reg rfl ?_
  refine .op (V.ld (v := Ag (escrow_State.cs r4 u6)) .t0 .k0 (.agg isAgg45 sizeOf45 rfl rfl)) rfl ?_
  refine .opp (P.fa .g2 fa_70_2 rfl) rfl ?_
  refine .op (V.ld (v := Ag (api_Tx.cs a1.Tx)) .t0 .k3 (.agg isAgg36 sizeOf36 rfl rfl)) rfl ?_
  obtain ⟨r9, hr10, h⟩ := bnd_eq h
  refine .opg (G.calll call28 (.cons .t1 (.cons .t0 .nil)) (S_escrow_Apply r4 u6 a1.Tx r9 hr10) .nil (.imp (List.mem_append_right _ Mm.m1) (fun _ => lst_rows) .nil) (fun _ _ => rfl) rfl) rfl fun u11 _ => ?_
  refine .opp (P.mov .t0) rfl ?_
  refine .opp (P.ext (v := Ag (escrow_State.cs r9.1 u11)) .g0 rfl) rfl ?_
  refine .opp (P.ext (v := N r9.2.1) .g1 rfl) rfl ?_
  refine .opp (P.ext (v := Bo r9.2.2) .t2 rfl) rfl ?_
  refine .opx (X.alc (cs := (escrow_State.cs ⟨0, 0, ⟨⟨⟨0, 0, 0, 0⟩, ⟨0, 0, 0, 0⟩⟩, ⟨⟨0, 0, 0, 0⟩, ⟨0, 0, 0, 0⟩⟩, ⟨⟨0, 0, 0, 0⟩, ⟨0, 0, 0, 0⟩⟩, ⟨⟨0, 0, 0, 0⟩, ⟨0, 0, 0, 0⟩⟩, ⟨⟨0, 0, 0, 0⟩, ⟨0, 0, 0, 0⟩⟩, ⟨⟨0, 0, 0, 0⟩, ⟨0, 0, 0, 0⟩⟩, ⟨⟨0, 0, 0, 0⟩, ⟨0, 0, 0, 0⟩⟩, ⟨⟨0, 0, 0, 0⟩, ⟨0, 0, 0, 0⟩⟩⟩, ⟨⟨⟨0, 0, 0, 0⟩, ⟨0, 0, 0, 0⟩⟩, ⟨⟨0, 0, 0, 0⟩, ⟨0, 0, 0, 0⟩⟩, ⟨⟨0, 0, 0, 0⟩, ⟨0, 0, 0, 0⟩⟩, ⟨⟨0, 0, 0, 0⟩, ⟨0, 0, 0, 0⟩⟩, ⟨⟨0, 0, 0, 0⟩, ⟨0, 0, 0, 0⟩⟩, ⟨⟨0, 0, 0, 0⟩, ⟨0, 0, 0, 0⟩⟩, ⟨⟨0, 0, 0, 0⟩, ⟨0, 0, 0, 0⟩⟩, ⟨⟨0, 0, 0, 0⟩, ⟨0, 0, 0, 0⟩⟩⟩, ⟨0, 0, 0, 0, 0, 0, 0, 0⟩, ⟨⟨0, 0, 0, 0⟩, ⟨0, 0, 0, 0⟩⟩, ⟨0, 0, 0, 0⟩, []⟩ nilSl)) zeroValue45 rfl) rfl fun b12 => ?_
  refine .onel .k1 fun ho13 => ?_
  refine .opg (G.str .t3 .g0 .k0 (.mk (cs' := (escrow_State.cs r9.1 u11)) sizeOf45 rfl (onez_45 _ ho13) rfl rfl)) rfl fun _ _ => ?_
  refine .opp (P.asg .t2) rfl ?_
  refine .opp (P.asg .t2) rfl ?_
  refine .nil ?_
  refine .then ?_
  refine .seq ?_
  obtain ⟨y14, hj16, h⟩ := thn_eq h
  refine .cutx (γ := Unit) (E1 := fun z15 => [(35, Bo y14), (7, pt b12 0), (4, pt b3 0), (2, pt b1 0)]) (L1 := fun z15 => [blk b12 45 (escrow_State.cs r9.1 u11), blk b3 45 (escrow_State.cs ⟨0, 0, ⟨⟨⟨0, 0, 0, 0⟩, ⟨0, 0, 0, 0⟩⟩, ⟨⟨0, 0, 0, 0⟩, ⟨0, 0, 0, 0⟩⟩, ⟨⟨0, 0, 0, 0⟩, ⟨0, 0, 0, 0⟩⟩, ⟨⟨0, 0, 0, 0⟩, ⟨0, 0, 0, 0⟩⟩, ⟨⟨0, 0, 0, 0⟩, ⟨0, 0, 0, 0⟩⟩, ⟨⟨0, 0, 0, 0⟩, ⟨0, 0, 0, 0⟩⟩, ⟨⟨0, 0, 0, 0⟩, ⟨0, 0, 0, 0⟩⟩, ⟨⟨0, 0, 0, 0⟩, ⟨0, 0, 0, 0⟩⟩⟩, ⟨⟨⟨0, 0, 0, 0⟩, ⟨0, 0, 0, 0⟩⟩, ⟨⟨0, 0, 0, 0⟩, ⟨0, 0, 0, 0⟩⟩, ⟨⟨0, 0, 0, 0⟩, ⟨0, 0, 0, 0⟩⟩, ⟨⟨0, 0, 0, 0⟩, ⟨0, 0, 0, 0⟩⟩, ⟨⟨0, 0, 0, 0⟩, ⟨0, 0, 0, 0⟩⟩, ⟨⟨0, 0, 0, 0⟩, ⟨0, 0, 0, 0⟩⟩, ⟨⟨0, 0, 0, 0⟩, ⟨0, 0, 0, 0⟩⟩, ⟨⟨0, 0, 0, 0⟩, ⟨0, 0, 0, 0⟩⟩⟩, ⟨0, 0, 0, 0, 0, 0, 0, 0⟩, ⟨⟨0, 0, 0, 0⟩, ⟨0, 0, 0, 0⟩⟩, ⟨0, 0, 0, 0⟩, []⟩ nilSl), blk b1 45 (escrow_State.cs a0 z00a), lst 76 3 u11 (r9.1.Locks.map escrow_Lock.cs)]) (R1 := fun z15 => [rows 3 z00a (a0.Locks.map escrow_Lock.cs)]) ?_ (fun z15 => ?_)
  · clear h
    refine .reg rfl ?_
    refine .opp (P.mov .t0) rfl ?_
    refine .opp (P.not .t0) rfl ?_
    refine .opp (P.mov .t0) rfl ?_
    refine .split .k0 (fun c17 => ?_) (fun c17 => ?_)
    · rw [if_pos c17] at hj16
      refine .gno rfl .g0 rfl rfl ?_
      refine .gno rfl .g0 rfl rfl ?_
      refine .gno rfl .g0 rfl rfl ?_
      refine .gno rfl .g0 rfl rfl ?_
      refine .opp (P.pickT .t0 .k) rfl ?_
      refine .nil ?_
      subst hj16
      exact .stj () (.cons Mm.m0 (.cons Mm.m2 (.cons Mm.m3 (.cons Mm.m5 .nil)))) (.of (.cons .k0 (.cons .k3 (.cons .k4 (.cons .k0 .nil))))) (.cons Mm.m0 .nil)
    · rw [if_neg (ne_true_of_eq_false c17)] at hj16
      refine .gyes rfl .g0 ?_
      refine .opp (P.mov .t1) rfl ?_
      refine .gyes rfl .g1 ?_
      refine .opp (P.fa .t4 fa_70_1 rfl) rfl ?_
      refine .gyes rfl .g2 ?_
      refine .op (V.ld (v := N a1.Code) .t0 .k5 (.one isAgg63 rfl)) rfl ?_
      refine .gyes rfl .g2 ?_
      refine .opp (P.bin .t1 .t0 .neq) rfl ?_
      refine .opp (P.pickF .t1 .t0) rfl ?_
      refine .nil ?_
      subst hj16
      exact .stj () (.cons Mm.m0 (.cons Mm.m1 (.cons Mm.m2 (.cons Mm.m3 .nil)))) (.of (.cons .k0 (.cons .k3 (.cons .k4 (.cons .k0 .nil))))) (.cons Mm.m0 .nil)
  · clear hj16
    refine .cond .t0 (fun c18 => ?_) (fun c18 => ?_)
    · rw [if_pos c18] at h
      refine .seq ?_
      refine .reg rfl ?_
      refine .op (V.ld (v := Ag (escrow_State.cs a0 z00a)) .t2 .k2 (.agg isAgg45 sizeOf45 rfl rfl)) rfl ?_
      refine .oner Mm.m0 fun ho19 => ?_
      refine .opg (G.str .t0 .g1 .k1 (.mk (cs' := (escrow_State.cs a0 z00a)) sizeOf45 rfl (onez_45 _ ho19) rfl rfl)) rfl fun _ _ => ?_
      refine .opp (P.asg .k) rfl ?_
      refine .nil ?_
      refine .then ?_
      refine .ret ?_
      refine .thr ?_
      cases h
      exact .finw z00a (.r2 rfl (.cell .g2 .k0 (.agg isAgg45 sizeOf45 rfl rfl)) (.tmp .g0)) trivial (Ls.of .nil) (.cons Mm.m0 .nil)
    · rw [if_neg (ne_true_of_eq_false c18)] at h
      refine .skip ?_
      refine .then ?_
      refine .seq ?_
      refine .reg rfl ?_
      refine .op (V.ld (v := Ag (escrow_State.cs r9.1 u11)) .t0 .k0 (.agg isAgg45 sizeOf45 rfl rfl)) rfl ?_
      refine .onel .k3 fun ho20 => ?_
      refine .opg (G.str .t0 .g0 .k1 (.mk (cs' := (escrow_State.cs r9.1 u11)) sizeOf45 rfl (onez_45 _ ho20) rfl rfl)) rfl fun _ _ => ?_
      refine .opp (P.asg .k) rfl ?_
      refine .nil ?_
      refine .then ?_
      refine .ret ?_
      cases h
      refine .frz .k3 ?_
      exact .finw u11 (.r2 rfl (.cell .g1 .k0 (.agg isAgg45 sizeOf45 rfl rfl)) (.tmp .g0)) trivial (Ls.of .nil) (.cons Mm.m0 .nil)
attribute [irreducible] replay_step
noncomputable def replay_State (a0 : List api_Event) (a1 : Int) (a2 : Int) : Option (escrow_State × Int) :=
  Option.bind (loopR (fun (i5 : Nat) (e8 : api_Event) (s6 : escrow_State) => Option.bind (replay_step s6 e8) fun r23 => if (!r23.2) = true then (Option.map Ct.rt (some ((s6, (i5 : Int))))) else (some (.nx r23.1))) 0 a0 (escrow_Genesis a1 a2)) fun o9 => Lo.on o9 fun (s6 : escrow_State) => some ((s6, (a0.length : Int)))
set_option maxRecDepth 20000 in
set_option maxHeartbeats 1000000 in
theorem S_replay_State (v00 : Value) (a0 : List api_Event) (a1 : Int) (a2 : Int) (r : escrow_State × Int) (h : replay_State a0 a1 a2 = some r) :
    SpecF Tryz.prog 11 [v00, N a1, N a2] [] [rows 27 v00 (a0.map api_Event.cs)] (fun z : Value => True) (fun z => Tu [Ag (escrow_State.cs r.1 z), N r.2]) (fun z M =>  M) (fun z M => rows 3 z (r.1.Locks.map escrow_Lock.cs) ::  M) := by
  refine .of func11 rfl ntmps11 rfl fun w0 D0 G0 => ?_
  unfold replay_State at h
  refine .seq ?_
  refine .reg rfl ?_
  refine .opx (X.alc (cs := (escrow_State.cs ⟨0, 0, ⟨⟨⟨0, 0, 0, 0⟩, ⟨0, 0, 0, 0⟩⟩, ⟨⟨0, 0, 0, 0⟩, ⟨0, 0, 0, 0⟩⟩, ⟨⟨0, 0, 0, 0⟩, ⟨0, 0, 0, 0⟩⟩, ⟨⟨0, 0, 0, 0⟩, ⟨0, 0, 0, 0⟩⟩, ⟨⟨0, 0, 0, 0⟩, ⟨0, 0, 0, 0⟩⟩, ⟨⟨0, 0, 0, 0⟩, ⟨0, 0, 0, 0⟩⟩, ⟨⟨0, 0, 0, 0⟩, ⟨0, 0, 0, 0⟩⟩, ⟨⟨0, 0, 0, 0⟩, ⟨0, 0, 0, 0⟩⟩⟩, ⟨⟨⟨0, 0, 0, 0⟩, ⟨0, 0, 0, 0⟩⟩, ⟨⟨0, 0, 0, 0⟩, ⟨0, 0, 0, 0⟩⟩, ⟨⟨0, 0, 0, 0⟩, ⟨0, 0, 0, 0⟩⟩, ⟨⟨0, 0, 0, 0⟩, ⟨0, 0, 0, 0⟩⟩, ⟨⟨0, 0, 0, 0⟩, ⟨0, 0, 0, 0⟩⟩, ⟨⟨0, 0, 0, 0⟩, ⟨0, 0, 0, 0⟩⟩, ⟨⟨0, 0, 0, 0⟩, ⟨0, 0, 0, 0⟩⟩, ⟨⟨0, 0, 0, 0⟩, ⟨0, 0, 0, 0⟩⟩⟩, ⟨0, 0, 0, 0, 0, 0, 0, 0⟩, ⟨⟨0, 0, 0, 0⟩, ⟨0, 0, 0, 0⟩⟩, ⟨0, 0, 0, 0⟩, []⟩ nilSl)) zeroValue45 rfl) rfl fun b1 => ?_
  refine .op0 (OpP.toV (P.asg .k)) rfl ?_
  refine .nil ?_
  refine .then ?_
  refine .seq ?_
  refine .reg rfl ?_
  refine .opp (P.mov .t2) rfl ?_
  refine .opp (P.mov .t3) rfl ?_
  refine .opg (G.call call23 (.cons .t1 (.cons .t0 .nil)) (S_escrow_Genesis a1 a2 _ rfl) .nil .nil (fun _ _ => rfl) (fun _ _ => rfl) rfl) rfl fun u2 _ => ?_
  refine .opx (X.alc (cs := (escrow_State.cs ⟨0, 0, ⟨⟨⟨0, 0, 0, 0⟩, ⟨0, 0, 0, 0⟩⟩, ⟨⟨0, 0, 0, 0⟩, ⟨0, 0, 0, 0⟩⟩, ⟨⟨0, 0, 0, 0⟩, ⟨0, 0, 0, 0⟩⟩, ⟨⟨0, 0, 0, 0⟩, ⟨0, 0, 0, 0⟩⟩, ⟨⟨0, 0, 0, 0⟩, ⟨0, 0, 0, 0⟩⟩, ⟨⟨0, 0, 0, 0⟩, ⟨0, 0, 0, 0⟩⟩, ⟨⟨0, 0, 0, 0⟩, ⟨0, 0, 0, 0⟩⟩, ⟨⟨0, 0, 0, 0⟩, ⟨0, 0, 0, 0⟩⟩⟩, ⟨⟨⟨0, 0, 0, 0⟩, ⟨0, 0, 0, 0⟩⟩, ⟨⟨0, 0, 0, 0⟩, ⟨0, 0, 0, 0⟩⟩, ⟨⟨0, 0, 0, 0⟩, ⟨0, 0, 0, 0⟩⟩, ⟨⟨0, 0, 0, 0⟩, ⟨0, 0, 0, 0⟩⟩, ⟨⟨0, 0, 0, 0⟩, ⟨0, 0, 0, 0⟩⟩, ⟨⟨0, 0, 0, 0⟩, ⟨0, 0, 0, 0⟩⟩, ⟨⟨0, 0, 0, 0⟩, ⟨0, 0, 0, 0⟩⟩, ⟨⟨0, 0, 0, 0⟩, ⟨0, 0, 0, 0⟩⟩⟩, ⟨0, 0, 0, 0, 0, 0, 0, 0⟩, ⟨⟨0, 0, 0, 0⟩, ⟨0, 0, 0, 0⟩⟩, ⟨0, 0, 0, 0⟩, []⟩ nilSl)) zeroValue45 rfl) rfl fun b3 => ?_
  refine .onel .k1 fun ho4 => ?_
  refine .opg (G.str .t1 .g0 .k0 (.mk (cs' := (escrow_State.cs (escrow_Genesis a1 a2) u2)) sizeOf45 rfl (onez_45 _ ho4) rfl rfl)) rfl fun _ _ => ?_
  refine .nil ?_
  refine .then ?_
  refine .seq ?_
  refine .seq ?_
  refine .reg rfl ?_
  refine .opp (P.mov .g2) rfl ?_
  refine .op (V.lnr (n := a0.length) .g0 Mm.m0 map_len runUnderlying48) rfl ?_
  refine .opp (P.mov .k) rfl ?_
  refine .nil ?_
  refine .then ?_
  refine .block ?_
  refine .frz .k1 ?_
  obtain ⟨o9, ho10, h⟩ := bnd_eq h
  refine .lenq Mm.m1 fun hl16 => ?_
  rw [map_len] at hl16
  refine .loopR (γ := Value) (fun i5 (s6 : escrow_State) z7 => [(18, N (i5 : Int)), (17, N (a0.length : Int)), (16, v00), (8, pt b3 0), (6, pt b1 0), (0, v00)]) (fun (s6 : escrow_State) z7 => [blk b3 45 (escrow_State.cs s6 z7), blk b1 45 (escrow_State.cs ⟨0, 0, ⟨⟨⟨0, 0, 0, 0⟩, ⟨0, 0, 0, 0⟩⟩, ⟨⟨0, 0, 0, 0⟩, ⟨0, 0, 0, 0⟩⟩, ⟨⟨0, 0, 0, 0⟩, ⟨0, 0, 0, 0⟩⟩, ⟨⟨0, 0, 0, 0⟩, ⟨0, 0, 0, 0⟩⟩, ⟨⟨0, 0, 0, 0⟩, ⟨0, 0, 0, 0⟩⟩, ⟨⟨0, 0, 0, 0⟩, ⟨0, 0, 0, 0⟩⟩, ⟨⟨0, 0, 0, 0⟩, ⟨0, 0, 0, 0⟩⟩, ⟨⟨0, 0, 0, 0⟩, ⟨0, 0, 0, 0⟩⟩⟩, ⟨⟨⟨0, 0, 0, 0⟩, ⟨0, 0, 0, 0⟩⟩, ⟨⟨0, 0, 0, 0⟩, ⟨0, 0, 0, 0⟩⟩, ⟨⟨0, 0, 0, 0⟩, ⟨0, 0, 0, 0⟩⟩, ⟨⟨0, 0, 0, 0⟩, ⟨0, 0, 0, 0⟩⟩, ⟨⟨0, 0, 0, 0⟩, ⟨0, 0, 0, 0⟩⟩, ⟨⟨0, 0, 0, 0⟩, ⟨0, 0, 0, 0⟩⟩, ⟨⟨0, 0, 0, 0⟩, ⟨0, 0, 0, 0⟩⟩, ⟨⟨0, 0, 0, 0⟩, ⟨0, 0, 0, 0⟩⟩⟩, ⟨0, 0, 0, 0, 0, 0, 0, 0⟩, ⟨⟨0, 0, 0, 0⟩, ⟨0, 0, 0, 0⟩⟩, ⟨0, 0, 0, 0⟩, []⟩ nilSl)]) (fun (s6 : escrow_State) z7 => [rows 27 v00 (a0.map api_Event.cs), rows 3 z7 (s6.Locks.map escrow_Lock.cs)]) u2 ho10 (.cons Mm.m0 (.cons Mm.m1 (.cons Mm.m2 (.cons Mm.m3 (.cons Mm.m4 (.cons Mm.m5 .nil)))))) (.of (.cons .k0 (.cons .k0 .nil))) (.cons Mm.m1 (.cons Mm.m0 .nil)) (fun i5 s6 z7 hi17 hr13 => ?_)
  refine .seq ?_
  refine .reg rfl ?_
  refine .opp (P.bin (v := Bo (decide ((i5 : Int) < (a0.length : Nat)))) .g0 .g1 .lss) rfl ?_
  refine .nil ?_
  refine .then ?_
  refine .seq ?_
  refine .cond .t0 (fun c18 => ?_) (fun c18 => ?_)
  · obtain ⟨e8, hx15⟩ := get_of c18
    obtain ⟨ct14, hc11, hn12⟩ := loopR_at hx15 hr13
    refine .skip ?_
    refine .then ?_
    refine .seq ?_
    refine .block ?_
    refine .seq ?_
    refine .reg rfl ?_
    refine .opp (P.mov .g0) rfl ?_
    refine .ixq Mm.m0 (map_get hx15) fun p19 q20 hq21 => ?_
    refine .opp (P.ixi (i := i5) .g1 rfl .g3 hq21 runUnderlying48 sizeOf70) rfl ?_
    refine .op (V.ldx0 (u := Ag (api_Event.cs e8)) .t0 hq21 Mm.m0 (map_get hx15) (.agg isAgg70 sizeOf70 rfl rfl)) rfl ?_
    refine .opx (X.alc (cs := (api_Event.cs ⟨0, 0, ⟨0, 0, 0, 0, ⟨0, 0, 0, 0⟩, ⟨0, ⟨#[]⟩, 0, 0, 0, 0, ⟨#[]⟩⟩, ⟨⟨0, 0, 0, 0⟩, 0⟩, ⟨0, 0, 0, 0⟩, ⟨#[]⟩⟩⟩)) zeroValue70 rfl) rfl fun b22 => ?_
    refine .opp (P.asg .t2) rfl ?_
    refine .opg (G.str .t2 .g1 .k0 (.mk (cs' := (api_Event.cs e8)) sizeOf70 rfl rfl rfl rfl)) rfl fun _ _ => ?_
    refine .nil ?_
    refine .then ?_
    refine .seq ?_
    refine .reg rfl ?_
    refine .op (V.ld (v := Ag (escrow_State.cs s6 z7)) .g5 .k1 (.agg isAgg45 sizeOf45 rfl rfl)) rfl ?_
    refine .op (V.ld (v := Ag (api_Event.cs e8)) .t2 .k0 (.agg isAgg70 sizeOf70 rfl rfl)) rfl ?_
    obtain ⟨r23, hr24, hc11⟩ := bnd_eq hc11
    refine .opg (G.call call30 (.cons .t1 (.cons .t0 .nil)) (S_replay_step s6 z7 e8 r23 hr24) .nil (.cons Mm.m1 .nil) (fun _ _ => rfl) (fun _ _ => rfl) rfl) rfl fun u25 _ => ?_
    refine .opp (P.mov .t0) rfl ?_
    refine .opp (P.ext (v := Ag (escrow_State.cs r23.1 u25)) .g0 rfl) rfl ?_
    refine .opp (P.ext (v := Bo r23.2) .t1 rfl) rfl ?_
    refine .opx (X.alc (cs := (escrow_State.cs ⟨0, 0, ⟨⟨⟨0, 0, 0, 0⟩, ⟨0, 0, 0, 0⟩⟩, ⟨⟨0, 0, 0, 0⟩, ⟨0, 0, 0, 0⟩⟩, ⟨⟨0, 0, 0, 0⟩, ⟨0, 0, 0, 0⟩⟩, ⟨⟨0, 0, 0, 0⟩, ⟨0, 0, 0, 0⟩⟩, ⟨⟨0, 0, 0, 0⟩, ⟨0, 0, 0, 0⟩⟩, ⟨⟨0, 0, 0, 0⟩, ⟨0, 0, 0, 0⟩⟩, ⟨⟨0, 0, 0, 0⟩, ⟨0, 0, 0, 0⟩⟩, ⟨⟨0, 0, 0, 0⟩, ⟨0, 0, 0, 0⟩⟩⟩, ⟨⟨⟨0, 0, 0, 0⟩, ⟨0, 0, 0, 0⟩⟩, ⟨⟨0, 0, 0, 0⟩, ⟨0, 0, 0, 0⟩⟩, ⟨⟨0, 0, 0, 0⟩, ⟨0, 0, 0, 0⟩⟩, ⟨⟨0, 0, 0, 0⟩, ⟨0, 0, 0, 0⟩⟩, ⟨⟨0, 0, 0, 0⟩, ⟨0, 0, 0, 0⟩⟩, ⟨⟨0, 0, 0, 0⟩, ⟨0, 0, 0, 0⟩⟩, ⟨⟨0, 0, 0, 0⟩, ⟨0, 0, 0, 0⟩⟩, ⟨⟨0, 0, 0, 0⟩, ⟨0, 0, 0, 0⟩⟩⟩, ⟨0, 0, 0, 0, 0, 0, 0, 0⟩, ⟨⟨0, 0, 0, 0⟩, ⟨0, 0, 0, 0⟩⟩, ⟨0, 0, 0, 0⟩, []⟩ nilSl)) zeroValue45 rfl) rfl fun b26 => ?_
    refine .oner Mm.m0 fun ho27 => ?_
    refine .opg (G.str .t2 .g0 .k0 (.mk (cs' := (escrow_State.cs r23.1 u25)) sizeOf45 rfl (onez_45 _ ho27) rfl rfl)) rfl fun _ _ => ?_
    refine .opp (P.asg .t1) rfl ?_
    refine .nil ?_
    refine .then ?_
    refine .seq ?_
    refine .seq ?_
    refine .reg rfl ?_
    refine .opp (P.mov .t0) rfl ?_
    refine .opp (P.not .t0) rfl ?_
    refine .nil ?_
    refine .then ?_
    refine .cond .t0 (fun c28 => ?_) (fun c28 => ?_)
    · rw [if_pos c28] at hc11
      refine .seq ?_
      refine .reg rfl ?_
      refine .op (V.ld (v := Ag (escrow_State.cs s6 z7)) .t5 .k2 (.agg isAgg45 sizeOf45 rfl rfl)) rfl ?_
      refine .opp (P.mov .t2) rfl ?_
      refine .oner Mm.m2 fun ho29 => ?_
      refine .opg (G.str .t1 .g5 .k3 (.mk (cs' := (escrow_State.cs s6 z7)) sizeOf45 rfl (onez_45 _ ho29) rfl rfl)) rfl fun _ _ => ?_
      refine .opp (P.asg .t0) rfl ?_
      refine .nil ?_
      refine .then ?_
      refine .ret ?_
      refine .thr ?_
      refine .inr ?_
      refine .thr ?_
      obtain ⟨x30, hx31, rfl⟩ := map_rt hc11
      obtain rfl := hn12
      obtain rfl := rt_on h
      refine .thr ?_
      refine .inr ?_
      refine .thr ?_
      cases hx31
      exact .finw z7 (.r2 rfl (.cell .g5 .k0 (.agg isAgg45 sizeOf45 rfl rfl)) (.tmp .g0)) trivial (Ls.of .nil) (.cons Mm.m2 .nil)
    · rw [if_neg (ne_true_of_eq_false c28)] at hc11
      refine .skip ?_
      refine .then ?_
      refine .reg rfl ?_
      refine .op (V.ld (v := Ag (escrow_State.cs r23.1 u25)) .t0 .k0 (.agg isAgg45 sizeOf45 rfl rfl)) rfl ?_
      refine .oner Mm.m0 fun ho32 => ?_
      refine .opg (G.str .t0 .g4 .k2 (.mk (cs' := (escrow_State.cs r23.1 u25)) sizeOf45 rfl (onez_45 _ ho32) rfl rfl)) rfl fun _ _ => ?_
      refine .nil ?_
      refine .inn ?_
      refine .then ?_
      refine .reg rfl ?_
      refine .opp (P.bin .g1 .k (.addc (inc_ok (lt_of_get hx15) hl16))) rfl ?_
      refine .drop .k2 ?_
      refine .opp (P.mov .t0) rfl ?_
      refine .nil ?_
      cases hc11
      exact .rdR r23.1 u25 hn12 (lt_of_get hx15) (.cons Mm.m0 (.cons Mm.m2 (.cons Mm.m3 (.cons Mm.m4 (.cons Mm.m5 (.cons Mm.m6 .nil)))))) (.of (.cons .k0 (.cons .k2 .nil))) (.cons Mm.m1 (.cons Mm.m0 .nil))
  · obtain rfl := loopR_end (le_of_not c18) hr13
    have h := dn_on h
    refine .exit ?_
    refine .thx ?_
    refine .thx ?_
    refine .inb ?_
    refine .then ?_
    refine .seq ?_
    refine .reg rfl ?_
    refine .op (V.ld (v := Ag (escrow_State.cs s6 z7)) .t3 .k0 (.agg isAgg45 sizeOf45 rfl rfl)) rfl ?_
    refine .opp (P.mov .t5) rfl ?_
    refine .op (V.lnr (n := a0.length) .t0 Mm.m0 map_len runUnderlying48) rfl ?_
    refine .oner Mm.m1 fun ho33 => ?_
    refine .opg (G.str .t1 .g4 .k1 (.mk (cs' := (escrow_State.cs s6 z7)) sizeOf45 rfl (onez_45 _ ho33) rfl rfl)) rfl fun _ _ => ?_
    refine .opp (P.asg .t0) rfl ?_
    refine .nil ?_
    refine .then ?_
    refine .ret ?_
    cases h
    exact .finw z7 (.r2 rfl (.cell .g4 .k0 (.agg isAgg45 sizeOf45 rfl rfl)) (.tmp .g0)) trivial (Ls.of .nil) (.cons Mm.m1 .nil)
attribute [irreducible] replay_State
noncomputable def slices_Equal_escrow_Lock (a0 : List escrow_Lock) (a1 : List escrow_Lock) : Option (Bool) :=
  if (decide ((a0.length : Int) ≠ (a1.length : Int))) = true then (some false) else (Option.bind (loopR (fun (i2 : Nat) (e5 : escrow_Lock) (s3 : Unit) => Option.bind (at_ a1 (i2 : Int)) fun (x22 : escrow_Lock) => if (decide ((e5 : escrow_Lock) ≠ (x22 : escrow_Lock))) = true then (Option.map Ct.rt (some false)) else (some (.nx ()))) 0 a0 ()) fun o6 => Lo.on o6 fun (s3 : Unit) => some true)
set_option maxRecDepth 20000 in
set_option maxHeartbeats 1000000 in
theorem S_slices_Equal_escrow_Lock (v00 : Value) (a0 : List escrow_Lock) (v01 : Value) (a1 : List escrow_Lock) (r : Bool) (h : slices_Equal_escrow_Lock a0 a1 = some r) :
    SpecF Tryz.prog 33 [v00, v01] [] [rows 3 v00 (a0.map escrow_Lock.cs), rows 3 v01 (a1.map escrow_Lock.cs)] (fun z : Unit => True) (fun z => Bo r) (fun z M =>  M) (fun z M =>  M) := by
  refine .of func33 rfl ntmps33 rfl fun w0 D0 G0 => ?_
  unfold slices_Equal_escrow_Lock at h
  refine .seq ?_
  refine .reg rfl ?_
  refine .op0 (OpP.toV (P.asg .k)) rfl ?_
  refine .nil ?_
  refine .then ?_
  refine .seq ?_
  refine .seq ?_
  refine .reg rfl ?_
  refine .opp (P.mov .g0) rfl ?_
  refine .op (V.lnr (n := a0.length) .t0 Mm.m0 map_len runUnderlying43) rfl ?_
  refine .opp (P.mov .g2) rfl ?_
  refine .op (V.lnr (n := a1.length) .t0 Mm.m1 map_len runUnderlying43) rfl ?_
  refine .opp (P.bin .t1 .t0 .neq) rfl ?_
  refine .nil ?_
  refine .then ?_
  refine .cond .t0 (fun c1 => ?_) (fun c1 => ?_)
  · rw [if_pos c1] at h
    refine .seq ?_
    refine .reg rfl ?_
    refine .opp (P.asg .k) rfl ?_
    refine .nil ?_
    refine .then ?_
    refine .ret ?_
    refine .thr ?_
    cases h
    exact .finw () (.r1 rfl (.tmp .g0)) trivial (Ls.of .nil) .nil
  · rw [if_neg (ne_true_of_eq_false c1)] at h
    refine .skip ?_
    refine .then ?_
    refine .seq ?_
    refine .seq ?_
    refine .reg rfl ?_
    refine .opp (P.mov .g0) rfl ?_
    refine .op (V.lnr (n := a0.length) .t0 Mm.m0 map_len runUnderlying43) rfl ?_
    refine .opp (P.mov .k) rfl ?_
    refine .nil ?_
    refine .then ?_
    refine .block ?_
    obtain ⟨o6, ho7, h⟩ := bnd_eq h
    refine .lenq Mm.m0 fun hl13 => ?_
    rw [map_len] at hl13
    refine .loopR (γ := Unit) (fun i2 (s3 : Unit) z4 => [(13, N (i2 : Int)), (12, N (a0.length : Int)), (0, v00), (1, v01)]) (fun (s3 : Unit) z4 => []) (fun (s3 : Unit) z4 => [rows 3 v00 (a0.map escrow_Lock.cs), rows 3 v01 (a1.map escrow_Lock.cs)]) () ho7 (.cons Mm.m0 (.cons Mm.m1 (.cons Mm.m2 (.cons Mm.m3 .nil)))) (.of .nil) (.cons Mm.m0 (.cons Mm.m1 .nil)) (fun i2 s3 z4 hi14 hr10 => ?_)
    refine .seq ?_
    refine .reg rfl ?_
    refine .opp (P.bin (v := Bo (decide ((i2 : Int) < (a0.length : Nat)))) .g0 .g1 .lss) rfl ?_
    refine .nil ?_
    refine .then ?_
    refine .seq ?_
    refine .cond .t0 (fun c15 => ?_) (fun c15 => ?_)
    · obtain ⟨e5, hx12⟩ := get_of c15
      obtain ⟨ct11, hc8, hn9⟩ := loopR_at hx12 hr10
      refine .skip ?_
      refine .then ?_
      refine .seq ?_
      refine .block ?_
      refine .seq ?_
      refine .reg rfl ?_
      refine .opp (P.mov .g0) rfl ?_
      refine .opp (P.asg .t0) rfl ?_
      refine .nil ?_
      refine .then ?_
      refine .seq ?_
      refine .draw 9 (.on 0 .pu (.on 1 .pu (.on 2 .pu (.on 4 .pu (.on 5 .pu (.on 6 .pu (.on 3 .ld (.on 7 .ld (.on 8 .pu .nl))))))))) follows_mixed (.thn (.inb (.thn (.thn (.inb (.thn .body)))))) (by kernel_rfl) ?_
      refine .dpu rfl (.n rfl) (P.mov .g3) rfl rfl ?_
      refine .dpu rfl (.n rfl) (P.mov .g1) rfl rfl ?_
      refine .ixq Mm.m0 (map_get hx12) fun p16 q17 hq18 => ?_
      refine .dpu rfl (.n rfl) (P.ixi (i := i2) .t0 rfl .t0 hq18 runUnderlying43 sizeOf76) rfl rfl ?_
      refine .dpu rfl (.n rfl) (P.mov .g5) rfl rfl ?_
      refine .dpu rfl (.n rfl) (P.mov .t2) rfl rfl ?_
      obtain ⟨x22, hx23, hc8⟩ := bnd_eq hc8
      obtain ⟨i24, hi25, hx23⟩ := at_eq hx23
      have hi25_ : ((i2 : Int)).toNat = i24 := by rw [hi25]; rfl
      refine .ixq Mm.m1 (map_get hx23) fun p19 q20 hq21 => ?_
      refine .dpu rfl (.n rfl) (P.ixi (i := i24) .t0 hi25 .t0 hq21 runUnderlying43 sizeOf76) rfl rfl ?_
      refine .dld rfl (.n rfl) (V.ldx0 (u := Ag (escrow_Lock.cs e5)) .t1 hq18 Mm.m0 (map_get hx12) (.agg isAgg76 sizeOf76 rfl rfl)) (fun _ h => h) rfl rfl ?_
      refine .dld rfl (.n rfl) (V.ldx0 (u := Ag (escrow_Lock.cs x22)) .t1 hq21 Mm.m1 (map_get hx23) (.agg isAgg76 sizeOf76 rfl rfl)) (fun _ h => h) rfl rfl ?_
      refine .dpu rfl (.n rfl) (P.bin .t1 .t0 (eq_76_neq _ _)) rfl rfl ?_
      refine .dnil ?_
      refine .then ?_
      refine .cond .t0 (fun c26 => ?_) (fun c26 => ?_)
      · rw [if_pos c26] at hc8
        refine .seq ?_
        refine .reg rfl ?_
        refine .opp (P.asg .k) rfl ?_
        refine .nil ?_
        refine .then ?_
        refine .ret ?_
        refine .inr ?_
        refine .thr ?_
        obtain ⟨x27, hx28, rfl⟩ := map_rt hc8
        obtain rfl := hn9
        obtain rfl := rt_on h
        refine .thr ?_
        refine .inr ?_
        refine .thr ?_
        cases hx28
        exact .finw () (.r1 rfl (.tmp .g0)) trivial (Ls.of .nil) .nil
      · rw [if_neg (ne_true_of_eq_false c26)] at hc8
        refine .skip ?_
        refine .inn ?_
        refine .then ?_
        refine .reg rfl ?_
        refine .opp (P.bin .g0 .k (.addc (inc_ok (lt_of_get hx12) hl13))) rfl ?_
        refine .drop .k1 ?_
        refine .opp (P.mov .t0) rfl ?_
        refine .nil ?_
        cases hc8
        exact .rdR () () hn9 (lt_of_get hx12) (.cons Mm.m0 (.cons Mm.m1 (.cons Mm.m2 (.cons Mm.m3 .nil)))) (.of .nil) (.cons Mm.m0 (.cons Mm.m1 .nil))
    · obtain rfl := loopR_end (le_of_not c15) hr10
      have h := dn_on h
      refine .exit ?_
      refine .thx ?_
      refine .thx ?_
      refine .inb ?_
      refine .then ?_
      refine .seq ?_
      refine .reg rfl ?_
      refine .opp (P.asg .k) rfl ?_
      refine .nil ?_
      refine .then ?_
      refine .ret ?_
      cases h
      exact .finw () (.r1 rfl (.tmp .g0)) trivial (Ls.of .nil) .nil
attribute [irreducible] slices_Equal_escrow_Lock
noncomputable def replay_Same (a0 : escrow_State) (a1 : escrow_State) : Option (Bool) :=
  thn (if (decide ((a0.Purse : purse_Book) = (a1.Purse : purse_Book))) = true then (if (decide ((a0.Vault : purse_Book) = (a1.Vault : purse_Book))) = true then (if (decide ((a0.Held : A2_api_Wide) = (a1.Held : A2_api_Wide))) = true then (decide ((a0.Burnt : api_Wide) = (a1.Burnt : api_Wide))) else false) else false) else false) fun (y3 : Bool) => Option.bind (if y3 = true then (if (decide (a0.Side = a1.Side)) = true then (if (decide (a0.Time = a1.Time)) = true then (if (decide ((a0.Nonces : A8_i64) = (a1.Nonces : A8_i64))) = true then (Option.bind (slices_Equal_escrow_Lock a0.Locks a1.Locks) fun r16 => some r16) else (some false)) else (some false)) else (some false)) else (some false)) fun (y9 : Bool) => some y9
set_option maxRecDepth 20000 in
set_option maxHeartbeats 1000000 in
theorem S_replay_Same (a0 : escrow_State) (z00a : Value) (a1 : escrow_State) (z01a : Value) (r : Bool) (h : replay_Same a0 a1 = some r) :
    SpecF Tryz.prog 16 [Ag (escrow_State.cs a0 z00a), Ag (escrow_State.cs a1 z01a)] [] [rows 3 z00a (a0.Locks.map escrow_Lock.cs), rows 3 z01a (a1.Locks.map escrow_Lock.cs)] (fun z : Unit => True) (fun z => Bo r) (fun z M =>  M) (fun z M =>  M) := by
  refine .of func16 rfl ntmps16 rfl fun w0 D0 G0 => ?_
  unfold replay_Same at h
  refine .seq ?_
  refine .reg rfl ?_
  refine .opx (X.box (cs := (escrow_State.cs a0 z00a)) .t0 rfl) rfl fun b1 => ?_
  refine .opx (X.box (cs := (escrow_State.cs a1 z01a)) .t1 rfl) rfl fun b2 => ?_
  refine .op0 (OpP.toV (P.asg .k)) rfl ?_
  refine .nil ?_
  refine .then ?_
  obtain ⟨y3, hj5, h⟩ := thn_eq h
  refine .cutx (γ := Unit) (E1 := fun z4 => [(5, Bo y3), (3, pt b2 0), (2, pt b1 0)]) (L1 := fun z4 => [blk b2 45 (escrow_State.cs a1 z01a), blk b1 45 (escrow_State.cs a0 z00a)]) (R1 := fun z4 => [rows 3 z01a (a1.Locks.map escrow_Lock.cs), rows 3 z00a (a0.Locks.map escrow_Lock.cs)]) ?_ (fun z4 => ?_)
  · clear h
    refine .reg rfl ?_
    refine .opp (P.fa .g1 fa_45_2 rfl) rfl ?_
    refine .op (V.ld (v := Ag (purse_Book.cs a0.Purse)) .t0 .k1 (.agg isAgg41 sizeOf41 rfl rfl)) rfl ?_
    refine .opp (P.fa .g1 fa_45_2 rfl) rfl ?_
    refine .op (V.ld (v := Ag (purse_Book.cs a1.Purse)) .t0 .k0 (.agg isAgg41 sizeOf41 rfl rfl)) rfl ?_
    refine .opp (P.bin .t1 .t0 (eq_41_eql _ _)) rfl ?_
    refine .opp (P.mov .t0) rfl ?_
    refine .split .k0 (fun c6 => ?_) (fun c6 => ?_)
    · rw [if_pos c6] at hj5
      refine .gyes rfl .g0 ?_
      refine .opp (P.fa .g2 fa_45_3 rfl) rfl ?_
      refine .gyes rfl .g1 ?_
      refine .op (V.ld (v := Ag (purse_Book.cs a0.Vault)) .t0 .k1 (.agg isAgg41 sizeOf41 rfl rfl)) rfl ?_
      refine .gyes rfl .g1 ?_
      refine .opp (P.fa .g2 fa_45_3 rfl) rfl ?_
      refine .gyes rfl .g2 ?_
      refine .op (V.ld (v := Ag (purse_Book.cs a1.Vault)) .t0 .k0 (.agg isAgg41 sizeOf41 rfl rfl)) rfl ?_
      refine .gyes rfl .g2 ?_
      refine .opp (P.bin .t1 .t0 (eq_41_eql _ _)) rfl ?_
      refine .opp (P.pickT .t1 .t0) rfl ?_
      refine .opp (P.mov .t0) rfl ?_
      refine .split .k0 (fun c7 => ?_) (fun c7 => ?_)
      · rw [if_pos c7] at hj5
        refine .gyes rfl .g0 ?_
        refine .opp (P.fa .g2 fa_45_5 rfl) rfl ?_
        refine .gyes rfl .g1 ?_
        refine .op (V.ld (v := Ag (A2_api_Wide.cs a0.Held)) .t0 .k1 (.agg isAgg39 sizeOf39 rfl rfl)) rfl ?_
        refine .gyes rfl .g1 ?_
        refine .opp (P.fa .g2 fa_45_5 rfl) rfl ?_
        refine .gyes rfl .g2 ?_
        refine .op (V.ld (v := Ag (A2_api_Wide.cs a1.Held)) .t0 .k0 (.agg isAgg39 sizeOf39 rfl rfl)) rfl ?_
        refine .gyes rfl .g2 ?_
        refine .opp (P.bin .t1 .t0 (eq_39_eql _ _)) rfl ?_
        refine .opp (P.pickT .t1 .t0) rfl ?_
        refine .opp (P.mov .t0) rfl ?_
        refine .split .k0 (fun c8 => ?_) (fun c8 => ?_)
        · rw [if_pos c8] at hj5
          refine .gyes rfl .g0 ?_
          refine .opp (P.fa .g2 fa_45_6 rfl) rfl ?_
          refine .gyes rfl .g1 ?_
          refine .op (V.ld (v := Ag (api_Wide.cs a0.Burnt)) .t0 .k1 (.agg isAgg30 sizeOf30 rfl rfl)) rfl ?_
          refine .gyes rfl .g1 ?_
          refine .opp (P.fa .g2 fa_45_6 rfl) rfl ?_
          refine .gyes rfl .g2 ?_
          refine .op (V.ld (v := Ag (api_Wide.cs a1.Burnt)) .t0 .k0 (.agg isAgg30 sizeOf30 rfl rfl)) rfl ?_
          refine .gyes rfl .g2 ?_
          refine .opp (P.bin .t1 .t0 (eq_30_eql _ _)) rfl ?_
          refine .opp (P.pickT .t1 .t0) rfl ?_
          refine .opp (P.asg .t0) rfl ?_
          refine .nil ?_
          subst hj5
          exact .stj () (.cons Mm.m0 (.cons Mm.m1 (.cons Mm.m2 .nil))) (.of (.cons .k0 (.cons .k0 .nil))) (.cons Mm.m1 (.cons Mm.m0 .nil))
        · rw [if_neg (ne_true_of_eq_false c8)] at hj5
          refine .gno rfl .g0 rfl rfl ?_
          refine .gno rfl .g0 rfl rfl ?_
          refine .gno rfl .g0 rfl rfl ?_
          refine .gno rfl .g0 rfl rfl ?_
          refine .gno rfl .g0 rfl rfl ?_
          refine .opp (P.pickF .t0 .k) rfl ?_
          refine .opp (P.asg .t0) rfl ?_
          refine .nil ?_
          subst hj5
          exact .stj () (.cons Mm.m0 (.cons Mm.m1 (.cons Mm.m2 .nil))) (.of (.cons .k0 (.cons .k0 .nil))) (.cons Mm.m1 (.cons Mm.m0 .nil))
      · rw [if_neg (ne_true_of_eq_false c7)] at hj5
        refine .gno rfl .g0 rfl rfl ?_
        refine .gno rfl .g0 rfl rfl ?_
        refine .gno rfl .g0 rfl rfl ?_
        refine .gno rfl .g0 rfl rfl ?_
        refine .gno rfl .g0 rfl rfl ?_
        refine .opp (P.pickF .t0 .k) rfl ?_
        refine .opp (P.mov .t0) rfl ?_
        refine .gno rfl .g0 rfl rfl ?_
        refine .gno rfl .g0 rfl rfl ?_
        refine .gno rfl .g0 rfl rfl ?_
        refine .gno rfl .g0 rfl rfl ?_
        refine .gno rfl .g0 rfl rfl ?_
        refine .opp (P.pickF .t0 .k) rfl ?_
        refine .opp (P.asg .t0) rfl ?_
        refine .nil ?_
        subst hj5
        exact .stj () (.cons Mm.m0 (.cons Mm.m1 (.cons Mm.m2 .nil))) (.of (.cons .k0 (.cons .k0 .nil))) (.cons Mm.m1 (.cons Mm.m0 .nil))
    · rw [if_neg (ne_true_of_eq_false c6)] at hj5
      refine .gno rfl .g0 rfl rfl ?_
      refine .gno rfl .g0 rfl rfl ?_
      refine .gno rfl .g0 rfl rfl ?_
      refine .gno rfl .g0 rfl rfl ?_
      refine .gno rfl .g0 rfl rfl ?_
      refine .opp (P.pickF .t0 .k) rfl ?_
      refine .opp (P.mov .t0) rfl ?_
      refine .gno rfl .g0 rfl rfl ?_
      refine .gno rfl .g0 rfl rfl ?_
      refine .gno rfl .g0 rfl rfl ?_
      refine .gno rfl .g0 rfl rfl ?_
      refine .gno rfl .g0 rfl rfl ?_
      refine .opp (P.pickF .t0 .k) rfl ?_
      refine .opp (P.mov .t0) rfl ?_
      refine .gno rfl .g0 rfl rfl ?_
      refine .gno rfl .g0 rfl rfl ?_
      refine .gno rfl .g0 rfl rfl ?_
      refine .gno rfl .g0 rfl rfl ?_
      refine .gno rfl .g0 rfl rfl ?_
      refine .opp (P.pickF .t0 .k) rfl ?_
      refine .opp (P.asg .t0) rfl ?_
      refine .nil ?_
      subst hj5
      exact .stj () (.cons Mm.m0 (.cons Mm.m1 (.cons Mm.m2 .nil))) (.of (.cons .k0 (.cons .k0 .nil))) (.cons Mm.m1 (.cons Mm.m0 .nil))
  · clear hj5
    obtain ⟨y9, hj11, h⟩ := bnd_eq h
    refine .cutx (γ := Unit) (E1 := fun z10 => [(4, Bo y9)]) (L1 := fun z10 => []) (R1 := fun z10 => [rows 3 z01a (a1.Locks.map escrow_Lock.cs), rows 3 z00a (a0.Locks.map escrow_Lock.cs)]) ?_ (fun z10 => ?_)
    · clear h
      refine .reg rfl ?_
      refine .opp (P.mov .t0) rfl ?_
      refine .opp (P.mov .t0) rfl ?_
      refine .split .k0 (fun c12 => ?_) (fun c12 => ?_)
      · rw [if_pos c12] at hj11
        refine .gyes rfl .g0 ?_
        refine .opp (P.fa .g2 fa_45_0 rfl) rfl ?_
        refine .gyes rfl .g1 ?_
        refine .op (V.ld (v := N a0.Side) .t0 .k1 (.one isAgg3 rfl)) rfl ?_
        refine .gyes rfl .g1 ?_
        refine .opp (P.fa .g2 fa_45_0 rfl) rfl ?_
        refine .gyes rfl .g2 ?_
        refine .op (V.ld (v := N a1.Side) .t0 .k0 (.one isAgg3 rfl)) rfl ?_
        refine .gyes rfl .g2 ?_
        refine .opp (P.bin .t1 .t0 .eql) rfl ?_
        refine .opp (P.pickT .t1 .t0) rfl ?_
        refine .opp (P.mov .t0) rfl ?_
        refine .split .k0 (fun c13 => ?_) (fun c13 => ?_)
        · rw [if_pos c13] at hj11
          refine .gyes rfl .g0 ?_
          refine .opp (P.fa .g2 fa_45_1 rfl) rfl ?_
          refine .gyes rfl .g1 ?_
          refine .op (V.ld (v := N a0.Time) .t0 .k1 (.one isAgg3 rfl)) rfl ?_
          refine .gyes rfl .g1 ?_
          refine .opp (P.fa .g2 fa_45_1 rfl) rfl ?_
          refine .gyes rfl .g2 ?_
          refine .op (V.ld (v := N a1.Time) .t0 .k0 (.one isAgg3 rfl)) rfl ?_
          refine .gyes rfl .g2 ?_
          refine .opp (P.bin .t1 .t0 .eql) rfl ?_
          refine .opp (P.pickT .t1 .t0) rfl ?_
          refine .opp (P.mov .t0) rfl ?_
          refine .split .k0 (fun c14 => ?_) (fun c14 => ?_)
          · rw [if_pos c14] at hj11
            refine .gyes rfl .g0 ?_
            refine .opp (P.fa .g2 fa_45_4 rfl) rfl ?_
            refine .gyes rfl .g1 ?_
            refine .op (V.ld (v := Ag (A8_i64.cs a0.Nonces)) .t0 .k1 (.agg isAgg42 sizeOf42 rfl rfl)) rfl ?_
            refine .gyes rfl .g1 ?_
            refine .opp (P.fa .g2 fa_45_4 rfl) rfl ?_
            refine .gyes rfl .g2 ?_
            refine .op (V.ld (v := Ag (A8_i64.cs a1.Nonces)) .t0 .k0 (.agg isAgg42 sizeOf42 rfl rfl)) rfl ?_
            refine .gyes rfl .g2 ?_
            refine .opp (P.bin .t1 .t0 (eq_42_eql _ _)) rfl ?_
            refine .opp (P.pickT .t1 .t0) rfl ?_
            refine .opp (P.mov .t0) rfl ?_
            refine .split .k0 (fun c15 => ?_) (fun c15 => ?_)
            · rw [if_pos c15] at hj11
              refine .gyes rfl .g0 ?_
              refine .opp (P.fa .t2 fa_45_7 rfl) rfl ?_
              refine .gyes rfl .g1 ?_
              refine .op (V.ld (v := z00a) .t0 .k1 (.one isAgg43 rfl)) rfl ?_
              refine .gyes rfl .g1 ?_
              refine .opp (P.fa .t2 fa_45_7 rfl) rfl ?_
              refine .gyes rfl .g2 ?_
              refine .op (V.ld (v := z01a) .t0 .k0 (.one isAgg43 rfl)) rfl ?_
              refine .gyes rfl .g2 ?_
              obtain ⟨r16, hr17, hj11⟩ := bnd_eq hj11
              refine .opg (G.call call33 (.cons .t1 (.cons .t0 .nil)) (S_slices_Equal_escrow_Lock z00a a0.Locks z01a a1.Locks r16 hr17) .nil (.cons Mm.m1 (.cons Mm.m0 .nil)) (fun _ _ => rfl) (fun _ _ => rfl) rfl) rfl fun _ _ => ?_
              refine .opp (P.pickT .t1 .t0) rfl ?_
              refine .opp (P.asg .t0) rfl ?_
              refine .nil ?_
              cases hj11
              exact .stj () (.cons Mm.m0 .nil) (.of .nil) (.cons Mm.m0 (.cons Mm.m1 .nil))
            · rw [if_neg (ne_true_of_eq_false c15)] at hj11
              refine .gno rfl .g0 rfl rfl ?_
              refine .gno rfl .g0 rfl rfl ?_
              refine .gno rfl .g0 rfl rfl ?_
              refine .gno rfl .g0 rfl rfl ?_
              refine .gno rfl .g0 rfl rfl ?_
              refine .opp (P.pickF .t0 .k) rfl ?_
              refine .opp (P.asg .t0) rfl ?_
              refine .nil ?_
              cases hj11
              exact .stj () (.cons Mm.m0 .nil) (.of .nil) (.cons Mm.m0 (.cons Mm.m1 .nil))
          · rw [if_neg (ne_true_of_eq_false c14)] at hj11
            refine .gno rfl .g0 rfl rfl ?_
            refine .gno rfl .g0 rfl rfl ?_
            refine .gno rfl .g0 rfl rfl ?_
            refine .gno rfl .g0 rfl rfl ?_
            refine .gno rfl .g0 rfl rfl ?_
            refine .opp (P.pickF .t0 .k) rfl ?_
            refine .opp (P.mov .t0) rfl ?_
            refine .gno rfl .g0 rfl rfl ?_
            refine .gno rfl .g0 rfl rfl ?_
            refine .gno rfl .g0 rfl rfl ?_
            refine .gno rfl .g0 rfl rfl ?_
            refine .gno rfl .g0 rfl rfl ?_
            refine .opp (P.pickF .t0 .k) rfl ?_
            refine .opp (P.asg .t0) rfl ?_
            refine .nil ?_
            cases hj11
            exact .stj () (.cons Mm.m0 .nil) (.of .nil) (.cons Mm.m0 (.cons Mm.m1 .nil))
        · rw [if_neg (ne_true_of_eq_false c13)] at hj11
          refine .gno rfl .g0 rfl rfl ?_
          refine .gno rfl .g0 rfl rfl ?_
          refine .gno rfl .g0 rfl rfl ?_
          refine .gno rfl .g0 rfl rfl ?_
          refine .gno rfl .g0 rfl rfl ?_
          refine .opp (P.pickF .t0 .k) rfl ?_
          refine .opp (P.mov .t0) rfl ?_
          refine .gno rfl .g0 rfl rfl ?_
          refine .gno rfl .g0 rfl rfl ?_
          refine .gno rfl .g0 rfl rfl ?_
          refine .gno rfl .g0 rfl rfl ?_
          refine .gno rfl .g0 rfl rfl ?_
          refine .opp (P.pickF .t0 .k) rfl ?_
          refine .opp (P.mov .t0) rfl ?_
          refine .gno rfl .g0 rfl rfl ?_
          refine .gno rfl .g0 rfl rfl ?_
          refine .gno rfl .g0 rfl rfl ?_
          refine .gno rfl .g0 rfl rfl ?_
          refine .gno rfl .g0 rfl rfl ?_
          refine .opp (P.pickF .t0 .k) rfl ?_
          refine .opp (P.asg .t0) rfl ?_
          refine .nil ?_
          cases hj11
          exact .stj () (.cons Mm.m0 .nil) (.of .nil) (.cons Mm.m0 (.cons Mm.m1 .nil))
      · rw [if_neg (ne_true_of_eq_false c12)] at hj11
        refine .gno rfl .g0 rfl rfl ?_
        refine .gno rfl .g0 rfl rfl ?_
        refine .gno rfl .g0 rfl rfl ?_
        refine .gno rfl .g0 rfl rfl ?_
        refine .gno rfl .g0 rfl rfl ?_
        refine .opp (P.pickF .t0 .k) rfl ?_
        refine .opp (P.mov .t0) rfl ?_
        refine .gno rfl .g0 rfl rfl ?_
        refine .gno rfl .g0 rfl rfl ?_
        refine .gno rfl .g0 rfl rfl ?_
        refine .gno rfl .g0 rfl rfl ?_
        refine .gno rfl .g0 rfl rfl ?_
        refine .opp (P.pickF .t0 .k) rfl ?_
        refine .opp (P.mov .t0) rfl ?_
        refine .gno rfl .g0 rfl rfl ?_
        refine .gno rfl .g0 rfl rfl ?_
        refine .gno rfl .g0 rfl rfl ?_
        refine .gno rfl .g0 rfl rfl ?_
        refine .gno rfl .g0 rfl rfl ?_
        refine .opp (P.pickF .t0 .k) rfl ?_
        refine .opp (P.mov .t0) rfl ?_
        refine .gno rfl .g0 rfl rfl ?_
        refine .gno rfl .g0 rfl rfl ?_
        refine .gno rfl .g0 rfl rfl ?_
        refine .gno rfl .g0 rfl rfl ?_
        refine .gno rfl .g0 rfl rfl ?_
        refine .opp (P.pickF .t0 .k) rfl ?_
        refine .opp (P.asg .t0) rfl ?_
        refine .nil ?_
        cases hj11
        exact .stj () (.cons Mm.m0 .nil) (.of .nil) (.cons Mm.m0 (.cons Mm.m1 .nil))
    · clear hj11
      refine .ret ?_
      cases h
      exact .finw () (.r1 rfl (.tmp .g0)) trivial (Ls.of .nil) .nil
attribute [irreducible] replay_Same
noncomputable def replay_First (a0 : List api_Event) (a1 : List api_Event) : Option (Int) :=
  Option.bind (loopW (fun (s1 : Int) => if (decide (s1 < (if (a1.length : Int) > (a0.length : Int) then (a1.length : Int) else (a0.length : Int)))) = true then (Option.bind (if (decide (s1 ≥ (a0.length : Int))) = true then (some true) else (if (decide (s1 ≥ (a1.length : Int))) = true then (some true) else (Option.bind (at_ a0 s1) fun (x19 : api_Event) => Option.bind (at_ a1 s1) fun (x26 : api_Event) => some (decide ((x19 : api_Event) ≠ (x26 : api_Event)))))) fun (y11 : Bool) => if y11 = true then (Option.map Ct.rt (some s1)) else (some (.nx (IntKind.i64.wrap (s1 + 1))))) else (some (.br s1))) 0) fun o3 => Lo.on o3 fun (s1 : Int) => some (-1)
set_option maxRecDepth 20000 in
set_option maxHeartbeats 1000000 in
theorem S_replay_First (v00 : Value) (a0 : List api_Event) (v01 : Value) (a1 : List api_Event) (r : Int) (h : replay_First a0 a1 = some r) :
    SpecF Tryz.prog 24 [v00, v01] [] [rows 27 v00 (a0.map api_Event.cs), rows 27 v01 (a1.map api_Event.cs)] (fun z : Unit => True) (fun z => N r) (fun z M =>  M) (fun z M =>  M) := by
  refine .of func24 rfl ntmps24 rfl fun w0 D0 G0 => ?_
  unfold replay_First at h
  refine .seq ?_
  refine .reg rfl ?_
  refine .op0 (OpP.toV (P.asg .k)) rfl ?_
  refine .nil ?_
  refine .then ?_
  refine .seq ?_
  refine .seq ?_
  refine .reg rfl ?_
  refine .opp (P.mov .g0) rfl ?_
  refine .op (V.lnr (n := a0.length) .t0 Mm.m0 map_len runUnderlying48) rfl ?_
  refine .opp (P.mov .g2) rfl ?_
  refine .op (V.lnr (n := a1.length) .t0 Mm.m1 map_len runUnderlying48) rfl ?_
  refine .opp (P.max2 .t1 .t0) rfl ?_
  refine .opp (P.mov .k) rfl ?_
  refine .nil ?_
  refine .then ?_
  refine .block ?_
  obtain ⟨o3, ho4, h⟩ := bnd_eq h
  refine .loopW (γ := Unit) (fun (s1 : Int) z2 => [(11, N s1), (10, N (if (a1.length : Int) > (a0.length : Int) then (a1.length : Int) else (a0.length : Int))), (0, v00), (1, v01)]) (fun (s1 : Int) z2 => []) (fun (s1 : Int) z2 => [rows 27 v00 (a0.map api_Event.cs), rows 27 v01 (a1.map api_Event.cs)]) () ho4 (.cons Mm.m0 (.cons Mm.m1 (.cons Mm.m2 (.cons Mm.m3 .nil)))) (.of .nil) (.cons Mm.m0 (.cons Mm.m1 .nil)) (fun n9 s1 z2 hr7 => ?_)
  obtain ⟨ct8, hc5, hn6⟩ := loopK_at hr7
  refine .seq ?_
  refine .reg rfl ?_
  refine .opp (P.bin .g0 .g1 .lss) rfl ?_
  refine .nil ?_
  refine .then ?_
  refine .seq ?_
  refine .cond .t0 (fun c10 => ?_) (fun c10 => ?_)
  · rw [if_pos c10] at hc5
    refine .skip ?_
    refine .then ?_
    refine .seq ?_
    refine .block ?_
    refine .seq ?_
    refine .reg rfl ?_
    refine .opp (P.mov .g0) rfl ?_
    refine .opp (P.asg .t0) rfl ?_
    refine .nil ?_
    refine .then ?_
    obtain ⟨y11, hj13, hc5⟩ := bnd_eq hc5
    refine .cutx (γ := Unit) (E1 := fun z12 => [(34, Bo y11), (5, N s1), (11, N s1), (10, N (if (a1.length : Int) > (a0.length : Int) then (a1.length : Int) else (a0.length : Int))), (0, v00), (1, v01)]) (L1 := fun z12 => []) (R1 := fun z12 => [rows 27 v00 (a0.map api_Event.cs), rows 27 v01 (a1.map api_Event.cs)]) ?_ (fun z12 => ?_)
    · clear hc5
      refine .draw 21 (.on 0 .pu (.on 1 .pu (.on 2 .ld (.on 3 .pu (.on 4 .pu (.on 5 .pu (.on 6 .pu (.on 7 .ld (.on 8 .pu (.on 9 .pu (.on 10 .pu (.on 11 .pu (.on 12 .pu (.on 13 .pu (.on 15 .pu (.on 16 .pu (.on 17 .pu (.on 14 .ld (.on 18 .ld (.on 19 .pu (.on 20 .pu .nl))))))))))))))))))))) follows_mixed (.thn (.inb (.thn (.thn (.inb (.thn .body)))))) (by kernel_rfl) ?_
      refine .dpu rfl (.n rfl) (P.mov .g0) rfl rfl ?_
      refine .dpu rfl (.n rfl) (P.mov .g4) rfl rfl ?_
      refine .dld rfl (.n rfl) (V.lnr (n := a0.length) .t0 Mm.m0 map_len runUnderlying48) (fun _ h => h) rfl rfl ?_
      refine .dpu rfl (.n rfl) (P.bin .t1 .t0 .geq) rfl rfl ?_
      refine .dpu rfl (.n rfl) (P.mov .t0) rfl rfl ?_
      refine .split .k0 (fun c14 => ?_) (fun c14 => ?_)
      · rw [if_pos c14] at hj13
        refine .dsk rfl (.g rfl rfl .g0 rfl) rfl rfl ?_
        refine .dsk rfl (.g rfl rfl .g0 rfl) rfl rfl ?_
        refine .dskl rfl (.g rfl rfl .g0 rfl) (fun _ h => h) rfl rfl ?_
        refine .dsk rfl (.g rfl rfl .g0 rfl) rfl rfl ?_
        refine .dpu rfl (.n rfl) (P.pickT .t0 .k) rfl rfl ?_
        refine .dpu rfl (.n rfl) (P.mov .t0) rfl rfl ?_
        refine .dsk rfl (.g rfl rfl .g0 rfl) rfl rfl ?_
        refine .dsk rfl (.g rfl rfl .g0 rfl) rfl rfl ?_
        refine .dsk rfl (.g rfl rfl .g0 rfl) rfl rfl ?_
        refine .dsk rfl (.g rfl rfl .g0 rfl) rfl rfl ?_
        refine .dsk rfl (.g rfl rfl .g0 rfl) rfl rfl ?_
        refine .dsk rfl (.g rfl rfl .g0 rfl) rfl rfl ?_
        refine .dskl rfl (.g rfl rfl .g0 rfl) (fun _ h => h) rfl rfl ?_
        refine .dskl rfl (.g rfl rfl .g0 rfl) (fun _ h => h) rfl rfl ?_
        refine .dsk rfl (.g rfl rfl .g0 rfl) rfl rfl ?_
        refine .dpu rfl (.n rfl) (P.pickT .t0 .k) rfl rfl ?_
        refine .dnil ?_
        cases hj13
        exact .stj () (.cons Mm.m0 (.cons Mm.m1 (.cons Mm.m2 (.cons Mm.m3 (.cons Mm.m4 (.cons Mm.m5 .nil)))))) (.of .nil) (.cons Mm.m0 (.cons Mm.m1 .nil))
      · rw [if_neg (ne_true_of_eq_false c14)] at hj13
        refine .dpu rfl (.g rfl rfl .g0 rfl) (P.mov .g1) rfl rfl ?_
        refine .dpu rfl (.g rfl rfl .g1 rfl) (P.mov .g6) rfl rfl ?_
        refine .dld rfl (.g rfl rfl .g2 rfl) (V.lnr (n := a1.length) .t0 Mm.m1 map_len runUnderlying48) (fun _ h => h) rfl rfl ?_
        refine .dpu rfl (.g rfl rfl .g2 rfl) (P.bin .t1 .t0 .geq) rfl rfl ?_
        refine .dpu rfl (.n rfl) (P.pickF .t1 .t0) rfl rfl ?_
        refine .dpu rfl (.n rfl) (P.mov .t0) rfl rfl ?_
        refine .split .k0 (fun c15 => ?_) (fun c15 => ?_)
        · rw [if_pos c15] at hj13
          refine .dsk rfl (.g rfl rfl .g0 rfl) rfl rfl ?_
          refine .dsk rfl (.g rfl rfl .g0 rfl) rfl rfl ?_
          refine .dsk rfl (.g rfl rfl .g0 rfl) rfl rfl ?_
          refine .dsk rfl (.g rfl rfl .g0 rfl) rfl rfl ?_
          refine .dsk rfl (.g rfl rfl .g0 rfl) rfl rfl ?_
          refine .dsk rfl (.g rfl rfl .g0 rfl) rfl rfl ?_
          refine .dskl rfl (.g rfl rfl .g0 rfl) (fun _ h => h) rfl rfl ?_
          refine .dskl rfl (.g rfl rfl .g0 rfl) (fun _ h => h) rfl rfl ?_
          refine .dsk rfl (.g rfl rfl .g0 rfl) rfl rfl ?_
          refine .dpu rfl (.n rfl) (P.pickT .t0 .k) rfl rfl ?_
          refine .dnil ?_
          cases hj13
          exact .stj () (.cons Mm.m0 (.cons Mm.m1 (.cons Mm.m2 (.cons Mm.m3 (.cons Mm.m4 (.cons Mm.m5 .nil)))))) (.of .nil) (.cons Mm.m0 (.cons Mm.m1 .nil))
        · rw [if_neg (ne_true_of_eq_false c15)] at hj13
          refine .dpu rfl (.g rfl rfl .g0 rfl) (P.mov .g4) rfl rfl ?_
          refine .dpu rfl (.g rfl rfl .g1 rfl) (P.mov .g2) rfl rfl ?_
          obtain ⟨x19, hx20, hj13⟩ := bnd_eq hj13
          obtain ⟨i21, hi22, hx20⟩ := at_eq hx20
          have hi22_ : (s1).toNat = i21 := by rw [hi22]; rfl
          refine .ixq Mm.m0 (map_get hx20) fun p16 q17 hq18 => ?_
          refine .dpu rfl (.g rfl rfl .g2 rfl) (P.ixi (i := i21) .t0 hi22 .t0 hq18 runUnderlying48 sizeOf70) rfl rfl ?_
          refine .dpu rfl (.g rfl rfl .g1 rfl) (P.mov .g6) rfl rfl ?_
          refine .dpu rfl (.g rfl rfl .g2 rfl) (P.mov .g3) rfl rfl ?_
          obtain ⟨x26, hx27, hj13⟩ := bnd_eq hj13
          obtain ⟨i28, hi29, hx27⟩ := at_eq hx27
          have hi29_ : (s1).toNat = i28 := by rw [hi29]; rfl
          refine .ixq Mm.m1 (map_get hx27) fun p23 q24 hq25 => ?_
          refine .dpu rfl (.g rfl rfl .g3 rfl) (P.ixi (i := i28) .t0 hi29 .t0 hq25 runUnderlying48 sizeOf70) rfl rfl ?_
          refine .dld rfl (.g rfl rfl .g2 rfl) (V.ldx0 (u := Ag (api_Event.cs x19)) .t1 hq18 Mm.m0 (map_get hx20) (.agg isAgg70 sizeOf70 rfl rfl)) (fun _ h => h) rfl rfl ?_
          refine .dld rfl (.g rfl rfl .g2 rfl) (V.ldx0 (u := Ag (api_Event.cs x26)) .t1 hq25 Mm.m1 (map_get hx27) (.agg isAgg70 sizeOf70 rfl rfl)) (fun _ h => h) rfl rfl ?_
          refine .dpu rfl (.g rfl rfl .g2 rfl) (P.bin .t1 .t0 (eq_70_neq _ _)) rfl rfl ?_
          refine .dpu rfl (.n rfl) (P.pickF .t1 .t0) rfl rfl ?_
          refine .dnil ?_
          cases hj13
          exact .stj () (.cons Mm.m0 (.cons Mm.m1 (.cons Mm.m2 (.cons Mm.m3 (.cons Mm.m4 (.cons Mm.m5 .nil)))))) (.of .nil) (.cons Mm.m0 (.cons Mm.m1 .nil))
    · clear hj13
      refine .cond .t0 (fun c30 => ?_) (fun c30 => ?_)
      · rw [if_pos c30] at hc5
        refine .seq ?_
        refine .reg rfl ?_
        refine .opp (P.mov .t0) rfl ?_
        refine .opp (P.asg .t0) rfl ?_
        refine .nil ?_
        refine .then ?_
        refine .ret ?_
        refine .inr ?_
        refine .thr ?_
        obtain ⟨x31, hx32, rfl⟩ := map_rt hc5
        obtain rfl := hn6
        obtain rfl := rt_on h
        refine .thr ?_
        refine .inr ?_
        refine .thr ?_
        cases hx32
        exact .finw () (.r1 rfl (.tmp .g0)) trivial (Ls.of .nil) .nil
      · rw [if_neg (ne_true_of_eq_false c30)] at hc5
        refine .skip ?_
        refine .inn ?_
        refine .then ?_
        refine .reg rfl ?_
        refine .opp (P.bin .g1 .k .add) rfl ?_
        refine .drop .k2 ?_
        refine .opp (P.mov .t0) rfl ?_
        refine .nil ?_
        cases hc5
        obtain ⟨m33, hm34, hn6⟩ := hn6
        exact .rdW (IntKind.i64.wrap (s1 + 1)) () hm34 hn6 (.cons Mm.m0 (.cons Mm.m2 (.cons Mm.m3 (.cons Mm.m4 .nil)))) (.of .nil) (.cons Mm.m0 (.cons Mm.m1 .nil))
  · rw [if_neg (ne_true_of_eq_false c10)] at hc5
    refine .exit ?_
    refine .thx ?_
    cases hc5
    refine .told (γ := Unit) h hn6 (fun (s1 : Int) _ => [(11, N s1), (10, N (if (a1.length : Int) > (a0.length : Int) then (a1.length : Int) else (a0.length : Int))), (0, v00), (1, v01)]) (fun (s1 : Int) _ => []) (fun (s1 : Int) _ => [rows 27 v00 (a0.map api_Event.cs), rows 27 v01 (a1.map api_Event.cs)]) () (.cons Mm.m0 (.cons Mm.m1 (.cons Mm.m2 (.cons Mm.m3 .nil)))) (.of .nil) (.cons Mm.m0 (.cons Mm.m1 .nil)) (fun s1 _ h' => ?_)
    replace h := h'
    refine .thx ?_
    refine .inb ?_
    refine .then ?_
    refine .seq ?_
    refine .reg rfl ?_
    refine .opp (P.asg .k) rfl ?_
    refine .nil ?_
    refine .then ?_
    refine .ret ?_
    cases h
    exact .finw () (.r1 rfl (.tmp .g0)) trivial (Ls.of .nil) .nil
attribute [irreducible] replay_First
noncomputable def narrowslaw37_alive  : Option (Bool) :=
  Option.bind (replay_State ([] : List api_Event) 1 7) fun r1 => Option.bind (if (decide (r1.2 = 0)) = true then (if (decide (r1.1.Side = 1)) = true then (if (decide (r1.1.Time = 7)) = true then (Option.bind (replay_Same r1.1 (escrow_Genesis 1 7)) fun r13 => if r13 = true then (Option.bind (replay_First ([] : List api_Event) ([] : List api_Event)) fun r16 => some (decide (r16 = (-1)))) else (some false)) else (some false)) else (some false)) else (some false)) fun (y6 : Bool) => some y6
set_option maxRecDepth 20000 in
set_option maxHeartbeats 1000000 in
theorem S_narrowslaw37_alive  (r : Bool) (h : narrowslaw37_alive  = some r) :
    SpecF Tryz.prog 6 [] [] [] (fun z : Unit => True) (fun z => Bo r) (fun z M =>  M) (fun z M =>  M) := by
  refine .of func6 rfl ntmps6 rfl fun w0 D0 G0 => ?_
  unfold narrowslaw37_alive at h
  refine .seq ?_
  refine .reg rfl ?_
  refine .op0 (OpP.toV (P.asg .k)) rfl ?_
  refine .nil ?_
  refine .then ?_
  refine .seq ?_
  refine .reg rfl ?_
  refine .rnil0 27 ?_
  obtain ⟨r1, hr2, h⟩ := bnd_eq h
  refine .opg (G.call call11 (.cons .k (.cons .k (.cons .k .nil))) (S_replay_State nilSl ([] : List api_Event) 1 7 r1 hr2) .nil (.cons Mm.m0 .nil) (fun _ _ => rfl) (fun _ _ => rfl) rfl) rfl fun u3 _ => ?_
  refine .opp (P.mov .t0) rfl ?_
  refine .opp (P.ext (v := Ag (escrow_State.cs r1.1 u3)) .g0 rfl) rfl ?_
  refine .opp (P.ext (v := N r1.2) .t1 rfl) rfl ?_
  refine .opx (X.alc (cs := (escrow_State.cs ⟨0, 0, ⟨⟨⟨0, 0, 0, 0⟩, ⟨0, 0, 0, 0⟩⟩, ⟨⟨0, 0, 0, 0⟩, ⟨0, 0, 0, 0⟩⟩, ⟨⟨0, 0, 0, 0⟩, ⟨0, 0, 0, 0⟩⟩, ⟨⟨0, 0, 0, 0⟩, ⟨0, 0, 0, 0⟩⟩, ⟨⟨0, 0, 0, 0⟩, ⟨0, 0, 0, 0⟩⟩, ⟨⟨0, 0, 0, 0⟩, ⟨0, 0, 0, 0⟩⟩, ⟨⟨0, 0, 0, 0⟩, ⟨0, 0, 0, 0⟩⟩, ⟨⟨0, 0, 0, 0⟩, ⟨0, 0, 0, 0⟩⟩⟩, ⟨⟨⟨0, 0, 0, 0⟩, ⟨0, 0, 0, 0⟩⟩, ⟨⟨0, 0, 0, 0⟩, ⟨0, 0, 0, 0⟩⟩, ⟨⟨0, 0, 0, 0⟩, ⟨0, 0, 0, 0⟩⟩, ⟨⟨0, 0, 0, 0⟩, ⟨0, 0, 0, 0⟩⟩, ⟨⟨0, 0, 0, 0⟩, ⟨0, 0, 0, 0⟩⟩, ⟨⟨0, 0, 0, 0⟩, ⟨0, 0, 0, 0⟩⟩, ⟨⟨0, 0, 0, 0⟩, ⟨0, 0, 0, 0⟩⟩, ⟨⟨0, 0, 0, 0⟩, ⟨0, 0, 0, 0⟩⟩⟩, ⟨0, 0, 0, 0, 0, 0, 0, 0⟩, ⟨⟨0, 0, 0, 0⟩, ⟨0, 0, 0, 0⟩⟩, ⟨0, 0, 0, 0⟩, []⟩ nilSl)) zeroValue45 rfl) rfl fun b4 => ?_
  refine .oner Mm.m0 fun ho5 => ?_
  refine .opg (G.str .t2 .g0 .k0 (.mk (cs' := (escrow_State.cs r1.1 u3)) sizeOf45 rfl (onez_45 _ ho5) rfl rfl)) rfl fun _ _ => ?_
  refine .opp (P.asg .t1) rfl ?_
  refine .nil ?_
  refine .then ?_
  obtain ⟨y6, hj8, h⟩ := bnd_eq h
  refine .cutx (γ := Unit) (E1 := fun z7 => [(0, Bo y6)]) (L1 := fun z7 => []) (R1 := fun z7 => []) ?_ (fun z7 => ?_)
  · clear h
    refine .draw 22 (.on 0 .pu (.on 1 .pu (.on 2 .pu (.on 3 .pu (.on 4 .ld (.on 5 .pu (.on 6 .pu (.on 7 .pu (.on 8 .pu (.on 9 .ld (.on 10 .pu (.on 11 .pu (.on 12 .pu (.on 13 .ld (.on 14 .go (.on 15 .go (.on 16 .pu (.on 17 .pu (.on 18 .go (.on 19 .pu (.on 20 .pu (.on 21 .go .nl)))))))))))))))))))))) follows_mixed (.thn .body) (by kernel_rfl) ?_
    refine .dpu rfl (.n rfl) (P.mov .t0) rfl rfl ?_
    refine .dpu rfl (.n rfl) (P.bin .t0 .k .eql) rfl rfl ?_
    refine .dpu rfl (.n rfl) (P.mov .t0) rfl rfl ?_
    refine .split .k0 (fun c9 => ?_) (fun c9 => ?_)
    · rw [if_pos c9] at hj8
      refine .dpu rfl (.g rfl rfl .g0 rfl) (P.fa .g1 fa_45_0 rfl) rfl rfl ?_
      refine .dld rfl (.g rfl rfl .g1 rfl) (V.ld (v := N r1.1.Side) .t0 .k0 (.one isAgg3 rfl)) (fun _ h => h) rfl rfl ?_
      refine .dpu rfl (.g rfl rfl .g1 rfl) (P.bin .t0 .k .eql) rfl rfl ?_
      refine .dpu rfl (.n rfl) (P.pickT .t1 .t0) rfl rfl ?_
      refine .dpu rfl (.n rfl) (P.mov .t0) rfl rfl ?_
      refine .split .k0 (fun c10 => ?_) (fun c10 => ?_)
      · rw [if_pos c10] at hj8
        refine .dpu rfl (.g rfl rfl .g0 rfl) (P.fa .g1 fa_45_1 rfl) rfl rfl ?_
        refine .dld rfl (.g rfl rfl .g1 rfl) (V.ld (v := N r1.1.Time) .t0 .k0 (.one isAgg3 rfl)) (fun _ h => h) rfl rfl ?_
        refine .dpu rfl (.g rfl rfl .g1 rfl) (P.bin .t0 .k .eql) rfl rfl ?_
        refine .dpu rfl (.n rfl) (P.pickT .t1 .t0) rfl rfl ?_
        refine .dpu rfl (.n rfl) (P.mov .t0) rfl rfl ?_
        refine .split .k0 (fun c11 => ?_) (fun c11 => ?_)
        · rw [if_pos c11] at hj8
          refine .dld rfl (.g rfl rfl .g0 rfl) (V.ld (v := Ag (escrow_State.cs r1.1 u3)) .t1 .k0 (.agg isAgg45 sizeOf45 rfl rfl)) (fun _ h => h) rfl rfl ?_
          refine .dgo rfl (.g rfl rfl .g1 rfl) (G.call call23 (.cons .k (.cons .k .nil)) (S_escrow_Genesis 1 7 _ rfl) .nil .nil (fun _ _ => rfl) (fun _ _ => rfl) rfl) (.inr fun _ _ _ h => (h.imp (Ls.of (.cons .k1 .nil))).ro (Rs.cons Mm.m0 (Rs.cons Mm.m1 Rs.nil))) fun u12 _ => ?_
          refine .frz .k0 ?_
          obtain ⟨r13, hr14, hj8⟩ := bnd_eq hj8
          refine .dgo rfl (.g rfl rfl .g2 rfl) (G.call call16 (.cons .t1 (.cons .t0 .nil)) (S_replay_Same r1.1 u3 (escrow_Genesis 1 7) u12 r13 hr14) .nil (.cons Mm.m1 (.cons Mm.m0 .nil)) (fun _ _ => rfl) (fun _ _ => rfl) rfl) (.inr fun _ _ _ h => (h.imp (Ls.of (.cons .k0 .nil))).ro (Rs.cons Mm.m1 (Rs.cons Mm.m2 Rs.nil))) fun _ _ => ?_
          refine .dpu rfl (.n rfl) (P.pickT .t1 .t0) rfl rfl ?_
          refine .dpu rfl (.n rfl) (P.mov .t0) rfl rfl ?_
          refine .split .k0 (fun c15 => ?_) (fun c15 => ?_)
          · rw [if_pos c15] at hj8
            obtain ⟨r16, hr17, hj8⟩ := bnd_eq hj8
            refine .dgo rfl (.g rfl rfl .g0 rfl) (G.call call24 (.cons .k (.cons .k .nil)) (S_replay_First nilSl ([] : List api_Event) nilSl ([] : List api_Event) r16 hr17) .nil (.cons Mm.m2 (.cons Mm.m2 .nil)) (fun _ _ => rfl) (fun _ _ => rfl) rfl) (.inr fun _ _ _ h => (h.imp (Ls.of (.cons .k0 .nil))).ro (Rs.cons Mm.m1 (Rs.cons Mm.m2 Rs.nil))) fun _ _ => ?_
            refine .dpu rfl (.g rfl rfl .g1 rfl) (P.bin .t0 .k .eql) rfl rfl ?_
            refine .dpu rfl (.n rfl) (P.pickT .t1 .t0) rfl rfl ?_
            refine .dgo rfl (.n rfl) (OpV.g (OpP.toV (P.asg .t0)) rfl) (.inr fun _ _ _ h => (h.imp (Ls.of (.cons .k0 .nil))).ro (Rs.cons Mm.m1 (Rs.cons Mm.m2 Rs.nil))) fun _ _ => ?_
            refine .dnil ?_
            cases hj8
            exact .stj () (.cons Mm.m0 .nil) (.of .nil) .nil
          · rw [if_neg (ne_true_of_eq_false c15)] at hj8
            refine .dskg rfl (.g rfl rfl .g0 rfl) (.inr fun _ h => (h.imp (Ls.of (.cons .k0 .nil))).ro (Rs.cons Mm.m1 (Rs.cons Mm.m2 Rs.nil))) rfl rfl ?_
            refine .dsk rfl (.g rfl rfl .g0 rfl) rfl rfl ?_
            refine .dpu rfl (.n rfl) (P.pickF .t0 .k) rfl rfl ?_
            refine .dgo rfl (.n rfl) (OpV.g (OpP.toV (P.asg .t0)) rfl) (.inr fun _ _ _ h => (h.imp (Ls.of (.cons .k0 .nil))).ro (Rs.cons Mm.m1 (Rs.cons Mm.m2 Rs.nil))) fun _ _ => ?_
            refine .dnil ?_
            cases hj8
            exact .stj () (.cons Mm.m0 .nil) (.of .nil) .nil
        · rw [if_neg (ne_true_of_eq_false c11)] at hj8
          refine .dskl rfl (.g rfl rfl .g0 rfl) (fun _ h => h) rfl rfl ?_
          refine .dskg rfl (.g rfl rfl .g0 rfl) (.inr fun _ h => h) rfl rfl ?_
          refine .dskg rfl (.g rfl rfl .g0 rfl) (.inr fun _ h => h) rfl rfl ?_
          refine .dpu rfl (.n rfl) (P.pickF .t0 .k) rfl rfl ?_
          refine .dpu rfl (.n rfl) (P.mov .t0) rfl rfl ?_
          refine .dskg rfl (.g rfl rfl .g0 rfl) (.inr fun _ h => h) rfl rfl ?_
          refine .dsk rfl (.g rfl rfl .g0 rfl) rfl rfl ?_
          refine .dpu rfl (.n rfl) (P.pickF .t0 .k) rfl rfl ?_
          refine .dgo rfl (.n rfl) (OpV.g (OpP.toV (P.asg .t0)) rfl) (.inr fun _ _ _ h => h) fun _ _ => ?_
          refine .dnil ?_
          cases hj8
          exact .stj () (.cons Mm.m0 .nil) (.of .nil) .nil
      · rw [if_neg (ne_true_of_eq_false c10)] at hj8
        refine .dsk rfl (.g rfl rfl .g0 rfl) rfl rfl ?_
        refine .dskl rfl (.g rfl rfl .g0 rfl) (fun _ h => h) rfl rfl ?_
        refine .dsk rfl (.g rfl rfl .g0 rfl) rfl rfl ?_
        refine .dpu rfl (.n rfl) (P.pickF .t0 .k) rfl rfl ?_
        refine .dpu rfl (.n rfl) (P.mov .t0) rfl rfl ?_
        refine .dskl rfl (.g rfl rfl .g0 rfl) (fun _ h => h) rfl rfl ?_
        refine .dskg rfl (.g rfl rfl .g0 rfl) (.inr fun _ h => h) rfl rfl ?_
        refine .dskg rfl (.g rfl rfl .g0 rfl) (.inr fun _ h => h) rfl rfl ?_
        refine .dpu rfl (.n rfl) (P.pickF .t0 .k) rfl rfl ?_
        refine .dpu rfl (.n rfl) (P.mov .t0) rfl rfl ?_
        refine .dskg rfl (.g rfl rfl .g0 rfl) (.inr fun _ h => h) rfl rfl ?_
        refine .dsk rfl (.g rfl rfl .g0 rfl) rfl rfl ?_
        refine .dpu rfl (.n rfl) (P.pickF .t0 .k) rfl rfl ?_
        refine .dgo rfl (.n rfl) (OpV.g (OpP.toV (P.asg .t0)) rfl) (.inr fun _ _ _ h => h) fun _ _ => ?_
        refine .dnil ?_
        cases hj8
        exact .stj () (.cons Mm.m0 .nil) (.of .nil) .nil
    · rw [if_neg (ne_true_of_eq_false c9)] at hj8
      refine .dsk rfl (.g rfl rfl .g0 rfl) rfl rfl ?_
      refine .dskl rfl (.g rfl rfl .g0 rfl) (fun _ h => h) rfl rfl ?_
      refine .dsk rfl (.g rfl rfl .g0 rfl) rfl rfl ?_
      refine .dpu rfl (.n rfl) (P.pickF .t0 .k) rfl rfl ?_
      refine .dpu rfl (.n rfl) (P.mov .t0) rfl rfl ?_
      refine .dsk rfl (.g rfl rfl .g0 rfl) rfl rfl ?_
      refine .dskl rfl (.g rfl rfl .g0 rfl) (fun _ h => h) rfl rfl ?_
      refine .dsk rfl (.g rfl rfl .g0 rfl) rfl rfl ?_
      refine .dpu rfl (.n rfl) (P.pickF .t0 .k) rfl rfl ?_
      refine .dpu rfl (.n rfl) (P.mov .t0) rfl rfl ?_
      refine .dskl rfl (.g rfl rfl .g0 rfl) (fun _ h => h) rfl rfl ?_
      refine .dskg rfl (.g rfl rfl .g0 rfl) (.inr fun _ h => h) rfl rfl ?_
      refine .dskg rfl (.g rfl rfl .g0 rfl) (.inr fun _ h => h) rfl rfl ?_
      refine .dpu rfl (.n rfl) (P.pickF .t0 .k) rfl rfl ?_
      refine .dpu rfl (.n rfl) (P.mov .t0) rfl rfl ?_
      refine .dskg rfl (.g rfl rfl .g0 rfl) (.inr fun _ h => h) rfl rfl ?_
      refine .dsk rfl (.g rfl rfl .g0 rfl) rfl rfl ?_
      refine .dpu rfl (.n rfl) (P.pickF .t0 .k) rfl rfl ?_
      refine .dgo rfl (.n rfl) (OpV.g (OpP.toV (P.asg .t0)) rfl) (.inr fun _ _ _ h => h) fun _ _ => ?_
      refine .dnil ?_
      cases hj8
      exact .stj () (.cons Mm.m0 .nil) (.of .nil) .nil
  · clear hj8
    refine .ret ?_
    cases h
    exact .finw () (.r1 rfl (.tmp .g0)) trivial (Ls.of .nil) .nil
attribute [irreducible] narrowslaw37_alive
noncomputable def chain_New (a0 : Int) (a1 : Int) : chain_Chain :=
  (⟨(escrow_Genesis a0 a1), [], [], true⟩ : chain_Chain)
set_option maxRecDepth 20000 in
set_option maxHeartbeats 1000000 in
theorem S_chain_New (a0 : Int) (a1 : Int) (r : chain_Chain) (h : chain_New a0 a1 = r) :
    SpecF Tryz.prog 7 [N a0, N a1] [] [] (fun z : Nat × Value × Value × Value => True) (fun z => pt z.1 0) (fun z M => blk z.1 62 (chain_Chain.cs r z.2.1 z.2.2.1 z.2.2.2) :: lst 76 3 z.2.1 (r.s.Locks.map escrow_Lock.cs) :: lst 36 25 z.2.2.1 (r.pool.map api_Tx.cs) :: lst 70 27 z.2.2.2 (r.events.map api_Event.cs) ::  M) (fun z M =>  M) := by
  refine .of func7 rfl ntmps7 rfl fun w0 D0 G0 => ?_
  unfold chain_New at h
  refine .seq ?_
  refine .reg rfl ?_
  refine .op0 (OpP.toV (P.asg .k)) rfl ?_
  refine .nil ?_
  refine .then ?_
  refine .seq ?_
  refine .reg rfl ?_
  refine .opp (P.mov .t0) rfl ?_
  refine .opp (P.mov .t1) rfl ?_
  refine .opg (G.call call23 (.cons .t1 (.cons .t0 .nil)) (S_escrow_Genesis a0 a1 _ rfl) .nil .nil (fun _ _ => rfl) (fun _ _ => rfl) rfl) rfl fun u1 _ => ?_
  refine .cell .k0 fun hv2 => ?_
  refine .opp (P.bld (v := Ag (chain_Chain.cs ⟨(escrow_Genesis a0 a1), [], [], true⟩ u1 nilSl nilSl)) (.cons .t0 (.cons .k .nil)) (bld_run zeroValue62 runUnderlying62 pl_62 (by obtain ⟨_, _, _, rfl⟩ := hv2; kernel_rfl))) rfl ?_
  refine .opx (X.box (cs := (chain_Chain.cs ⟨(escrow_Genesis a0 a1), [], [], true⟩ u1 nilSl nilSl)) .t0 rfl) rfl fun b3 => ?_
  refine .opp (P.asg .t0) rfl ?_
  refine .nil ?_
  refine .then ?_
  refine .ret ?_
  subst h
  refine .lnil 36 25 ?_
  refine .lnil 70 27 ?_
  exact .finw ⟨b3, u1, nilSl, nilSl⟩ (.r1 rfl (.tmp .g0)) trivial (Ls.of (.cons .k2 (.cons .k2 (.cons .k1 (.cons .k0 .nil))))) .nil
attribute [irreducible] chain_New
noncomputable def chain_Chain_is (a0 : chain_Chain) : Bool :=
  a0.made
set_option maxRecDepth 20000 in
set_option maxHeartbeats 1000000 in
theorem S_chain_Chain_is (b00 : Nat) (a0 : chain_Chain) (z00a z00b z00c : Value) (r : Bool) (h : chain_Chain_is a0 = r) :
    SpecF Tryz.prog 25 [pt b00 0] [blk b00 62 (chain_Chain.cs a0 z00a z00b z00c), lst 76 3 z00a (a0.s.Locks.map escrow_Lock.cs), lst 36 25 z00b (a0.pool.map api_Tx.cs), lst 70 27 z00c (a0.events.map api_Event.cs)] [] (fun z : Unit => True) (fun z => Bo r) (fun z M => blk b00 62 (chain_Chain.cs a0 z00a z00b z00c) :: lst 76 3 z00a (a0.s.Locks.map escrow_Lock.cs) :: lst 36 25 z00b (a0.pool.map api_Tx.cs) :: lst 70 27 z00c (a0.events.map api_Event.cs) ::  M) (fun z M =>  M) := by
  refine .of func25 rfl ntmps25 rfl fun w0 D0 G0 => ?_
  unfold chain_Chain_is at h
  refine .seq ?_
  refine .reg rfl ?_
  refine .op0 (OpP.toV (P.asg .k)) rfl ?_
  refine .nil ?_
  refine .then ?_
  refine .seq ?_
  refine .reg rfl ?_
  refine .opp (P.mov .g0) rfl ?_
  refine .opp (P.bin .t0 .k (.ptr_neq (e := 62) (by kernel_rfl))) rfl ?_
  refine .opp (P.mov .t0) rfl ?_
  refine .gyes rfl .g0 ?_
  refine .opp (P.mov .t1) rfl ?_
  refine .gyes rfl .g1 ?_
  refine .opp (P.nilc .t0) rfl ?_
  refine .gyes rfl .g1 ?_
  refine .opp (P.fa .t0 fa_62_3 rfl) rfl ?_
  refine .gyes rfl .g1 ?_
  refine .op (V.ld (v := Bo a0.made) .t0 .k0 (.one isAgg4 rfl)) rfl ?_
  refine .opp (P.pickT .t1 .t0) rfl ?_
  refine .opp (P.asg .t0) rfl ?_
  refine .nil ?_
  refine .then ?_
  refine .ret ?_
  subst h
  exact .finw () (.r1 rfl (.tmp .g0)) trivial (Ls.of (.cons .k0 (.cons .k0 (.cons .k0 (.cons .k0 .nil))))) .nil
attribute [irreducible] chain_Chain_is
noncomputable def slices_Index_api_Tx (a0 : List api_Tx) (a1 : api_Tx) : Option (Int) :=
  Option.bind (loopR (fun (i2 : Nat) (e5 : api_Tx) (s3 : Unit) => if (decide ((a1 : api_Tx) = (e5 : api_Tx))) = true then (Option.map Ct.rt (some (i2 : Int))) else (some (.nx ()))) 0 a0 ()) fun o6 => Lo.on o6 fun (s3 : Unit) => some (-1)
set_option maxRecDepth 20000 in
set_option maxHeartbeats 1000000 in
theorem S_slices_Index_api_Tx (v00 : Value) (a0 : List api_Tx) (a1 : api_Tx) (r : Int) (h : slices_Index_api_Tx a0 a1 = some r) :
    SpecF Tryz.prog 45 [v00, Ag (api_Tx.cs a1)] [] [rows 25 v00 (a0.map api_Tx.cs)] (fun z : Unit => True) (fun z => N r) (fun z M =>  M) (fun z M =>  M) := by
  refine .of func45 rfl ntmps45 rfl fun w0 D0 G0 => ?_
  unfold slices_Index_api_Tx at h
  refine .seq ?_
  refine .reg rfl ?_
  refine .opx (X.box (cs := (api_Tx.cs a1)) .t1 rfl) rfl fun b1 => ?_
  refine .op0 (OpP.toV (P.asg .k)) rfl ?_
  refine .nil ?_
  refine .then ?_
  refine .seq ?_
  refine .seq ?_
  refine .reg rfl ?_
  refine .opp (P.mov .g1) rfl ?_
  refine .op (V.lnr (n := a0.length) .t0 Mm.m0 map_len runUnderlying22) rfl ?_
  refine .opp (P.mov .k) rfl ?_
  refine .nil ?_
  refine .then ?_
  refine .block ?_
  obtain ⟨o6, ho7, h⟩ := bnd_eq h
  refine .lenq Mm.m0 fun hl13 => ?_
  rw [map_len] at hl13
  refine .loopR (γ := Unit) (fun i2 (s3 : Unit) z4 => [(8, N (i2 : Int)), (7, N (a0.length : Int)), (3, pt b1 0), (0, v00)]) (fun (s3 : Unit) z4 => [blk b1 36 (api_Tx.cs a1)]) (fun (s3 : Unit) z4 => [rows 25 v00 (a0.map api_Tx.cs)]) () ho7 (.cons Mm.m0 (.cons Mm.m1 (.cons Mm.m2 (.cons Mm.m3 .nil)))) (.of (.cons .k0 .nil)) (.cons Mm.m0 .nil) (fun i2 s3 z4 hi14 hr10 => ?_)
  refine .seq ?_
  refine .reg rfl ?_
  refine .opp (P.bin (v := Bo (decide ((i2 : Int) < (a0.length : Nat)))) .g0 .g1 .lss) rfl ?_
  refine .nil ?_
  refine .then ?_
  refine .seq ?_
  refine .cond .t0 (fun c15 => ?_) (fun c15 => ?_)
  · obtain ⟨e5, hx12⟩ := get_of c15
    obtain ⟨ct11, hc8, hn9⟩ := loopR_at hx12 hr10
    refine .skip ?_
    refine .then ?_
    refine .seq ?_
    refine .block ?_
    refine .seq ?_
    refine .reg rfl ?_
    refine .opp (P.mov .g0) rfl ?_
    refine .opp (P.asg .t0) rfl ?_
    refine .nil ?_
    refine .then ?_
    refine .seq ?_
    refine .draw 6 (.on 1 .pu (.on 2 .pu (.on 3 .pu (.on 0 .ld (.on 4 .ld (.on 5 .pu .nl)))))) follows_mixed (.thn (.inb (.thn (.thn (.inb (.thn .body)))))) (by kernel_rfl) ?_
    refine .dpu rfl (.n rfl) (P.mov .g4) rfl rfl ?_
    refine .dpu rfl (.n rfl) (P.mov .g1) rfl rfl ?_
    refine .ixq Mm.m0 (map_get hx12) fun p16 q17 hq18 => ?_
    refine .dpu rfl (.n rfl) (P.ixi (i := i2) .t0 rfl .t0 hq18 runUnderlying22 sizeOf36) rfl rfl ?_
    refine .dld rfl (.n rfl) (V.ld (v := Ag (api_Tx.cs a1)) .g4 .k0 (.agg isAgg36 sizeOf36 rfl rfl)) (fun _ h => h) rfl rfl ?_
    refine .dld rfl (.n rfl) (V.ldx0 (u := Ag (api_Tx.cs e5)) .t1 hq18 Mm.m0 (map_get hx12) (.agg isAgg36 sizeOf36 rfl rfl)) (fun _ h => h) rfl rfl ?_
    refine .dpu rfl (.n rfl) (P.bin .t1 .t0 (eq_36_eql _ _)) rfl rfl ?_
    refine .dnil ?_
    refine .then ?_
    refine .cond .t0 (fun c19 => ?_) (fun c19 => ?_)
    · rw [if_pos c19] at hc8
      refine .seq ?_
      refine .reg rfl ?_
      refine .opp (P.mov .t0) rfl ?_
      refine .opp (P.asg .t0) rfl ?_
      refine .nil ?_
      refine .then ?_
      refine .ret ?_
      refine .inr ?_
      refine .thr ?_
      obtain ⟨x20, hx21, rfl⟩ := map_rt hc8
      obtain rfl := hn9
      obtain rfl := rt_on h
      refine .thr ?_
      refine .inr ?_
      refine .thr ?_
      cases hx21
      exact .finw () (.r1 rfl (.tmp .g0)) trivial (Ls.of .nil) .nil
    · rw [if_neg (ne_true_of_eq_false c19)] at hc8
      refine .skip ?_
      refine .inn ?_
      refine .then ?_
      refine .reg rfl ?_
      refine .opp (P.bin .g1 .k (.addc (inc_ok (lt_of_get hx12) hl13))) rfl ?_
      refine .drop .k2 ?_
      refine .opp (P.mov .t0) rfl ?_
      refine .nil ?_
      cases hc8
      exact .rdR () () hn9 (lt_of_get hx12) (.cons Mm.m0 (.cons Mm.m2 (.cons Mm.m3 (.cons Mm.m4 .nil)))) (.of (.cons .k0 .nil)) (.cons Mm.m0 .nil)
  · obtain rfl := loopR_end (le_of_not c15) hr10
    have h := dn_on h
    refine .exit ?_
    refine .thx ?_
    refine .thx ?_
    refine .inb ?_
    refine .then ?_
    refine .seq ?_
    refine .reg rfl ?_
    refine .opp (P.asg .k) rfl ?_
    refine .nil ?_
    refine .then ?_
    refine .ret ?_
    cases h
    exact .finw () (.r1 rfl (.tmp .g0)) trivial (Ls.of .nil) .nil
attribute [irreducible] slices_Index_api_Tx
noncomputable def slices_Contains_api_Tx (a0 : List api_Tx) (a1 : api_Tx) : Option (Bool) :=
  Option.bind (slices_Index_api_Tx a0 a1) fun r2 => some (decide (r2 ≥ 0))
set_option maxRecDepth 20000 in
set_option maxHeartbeats 1000000 in
theorem S_slices_Contains_api_Tx (v00 : Value) (a0 : List api_Tx) (a1 : api_Tx) (r : Bool) (h : slices_Contains_api_Tx a0 a1 = some r) :
    SpecF Tryz.prog 27 [v00, Ag (api_Tx.cs a1)] [] [rows 25 v00 (a0.map api_Tx.cs)] (fun z : Unit => True) (fun z => Bo r) (fun z M =>  M) (fun z M =>  M) := by
  refine .of func27 rfl ntmps27 rfl fun w0 D0 G0 => ?_
  unfold slices_Contains_api_Tx at h
  refine .seq ?_
  refine .reg rfl ?_
  refine .opx (X.box (cs := (api_Tx.cs a1)) .t1 rfl) rfl fun b1 => ?_
  refine .op0 (OpP.toV (P.asg .k)) rfl ?_
  refine .nil ?_
  refine .then ?_
  refine .seq ?_
  refine .reg rfl ?_
  refine .opp (P.mov .t1) rfl ?_
  refine .op (V.ld (v := Ag (api_Tx.cs a1)) .t1 .k0 (.agg isAgg36 sizeOf36 rfl rfl)) rfl ?_
  obtain ⟨r2, hr3, h⟩ := bnd_eq h
  refine .opg (G.call call45 (.cons .t1 (.cons .t0 .nil)) (S_slices_Index_api_Tx v00 a0 a1 r2 hr3) .nil (.cons Mm.m0 .nil) (fun _ _ => rfl) (fun _ _ => rfl) rfl) rfl fun _ _ => ?_
  refine .opp (P.bin .t0 .k .geq) rfl ?_
  refine .opp (P.asg .t0) rfl ?_
  refine .nil ?_
  refine .then ?_
  refine .ret ?_
  cases h
  exact .finw () (.r1 rfl (.tmp .g0)) trivial (Ls.of .nil) .nil
attribute [irreducible] slices_Contains_api_Tx
noncomputable def chain_Chain_Submit (a0 : chain_Chain) (a1 : api_Tx) : Option (Bool × chain_Chain) :=
  Option.bind (if (!(chain_Chain_is a0)) = true then (some true) else (if (decide ((txs_Check a1) ≠ 0)) = true then (some true) else (if (decide ((a0.pool.length : Int) ≥ 128)) = true then (some true) else (Option.bind (slices_Contains_api_Tx a0.pool a1) fun r8 => some r8)))) fun (y2 : Bool) => if y2 = true then (some (false, a0)) else (grd ((a0.pool.length + ([a1] : List api_Tx).length) * 224 ≤ 140737488355328) <| some ((true, (⟨a0.s, (a0.pool ++ ([a1] : List api_Tx)), a0.events, a0.made⟩ : chain_Chain))))
set_option maxRecDepth 20000 in
set_option maxHeartbeats 1000000 in
theorem S_chain_Chain_Submit (b00 : Nat) (a0 : chain_Chain) (z00a z00b z00c : Value) (a1 : api_Tx) (r : Bool × chain_Chain) (h : chain_Chain_Submit a0 a1 = some r) :
    SpecF Tryz.prog 8 [pt b00 0, Ag (api_Tx.cs a1)] [blk b00 62 (chain_Chain.cs a0 z00a z00b z00c), lst 76 3 z00a (a0.s.Locks.map escrow_Lock.cs), lst 36 25 z00b (a0.pool.map api_Tx.cs), lst 70 27 z00c (a0.events.map api_Event.cs)] [] (fun z : Value => True) (fun z => Bo r.1) (fun z M => blk b00 62 (chain_Chain.cs r.2 z00a z z00c) :: lst 76 3 z00a (r.2.s.Locks.map escrow_Lock.cs) :: lst 36 25 z (r.2.pool.map api_Tx.cs) :: lst 70 27 z00c (r.2.events.map api_Event.cs) ::  M) (fun z M =>  M) := by
  refine .of func8 rfl ntmps8 rfl fun w0 D0 G0 => ?_
  unfold chain_Chain_Submit at h
  refine .seq ?_
  refine .reg rfl ?_
  refine .opx (X.box (cs := (api_Tx.cs a1)) .t1 rfl) rfl fun b1 => ?_
  refine .op0 (OpP.toV (P.asg .k)) rfl ?_
  refine .nil ?_
  refine .then ?_
  refine .seq ?_
  obtain ⟨y2, hj4, h⟩ := bnd_eq h
  refine .cutx (γ := Unit) (E1 := fun z3 => [(28, Bo y2), (3, pt b1 0), (0, pt b00 0)]) (L1 := fun z3 => [blk b1 36 (api_Tx.cs a1), blk b00 62 (chain_Chain.cs a0 z00a z00b z00c), lst 76 3 z00a (a0.s.Locks.map escrow_Lock.cs), lst 36 25 z00b (a0.pool.map api_Tx.cs), lst 70 27 z00c (a0.events.map api_Event.cs)]) (R1 := fun z3 => []) ?_ (fun z3 => ?_)
  · clear h
    refine .draw 24 (.on 0 .pu (.on 1 .go (.on 2 .pu (.on 3 .pu (.on 4 .ld (.on 5 .go (.on 6 .pu (.on 7 .pu (.on 8 .pu (.on 9 .pu (.on 10 .pu (.on 11 .pu (.on 12 .ld (.on 13 .ld (.on 14 .pu (.on 15 .pu (.on 16 .pu (.on 17 .pu (.on 18 .pu (.on 19 .pu (.on 20 .ld (.on 21 .ld (.on 22 .go (.on 23 .pu .nl)))))))))))))))))))))))) follows_mixed (.thn (.thn .body)) (by kernel_rfl) ?_
    refine .dpu rfl (.n rfl) (P.mov .g1) rfl rfl ?_
    refine .dgo rfl (.n rfl) (G.call call25 (.cons .t0 .nil) (S_chain_Chain_is b00 a0 z00a z00b z00c _ rfl) (.cons .k1 (.cons .k1 (.cons .k1 (.cons .k1 .nil)))) .nil (fun _ _ => rfl) (fun _ _ => rfl) rfl) (.inr fun _ _ _ h => (h.imp (Ls.of (.cons .k4 (.cons .k0 (.cons .k0 (.cons .k0 (.cons .k0 .nil))))))).ro Rs.nil) fun _ _ => ?_
    refine .dpu rfl (.n rfl) (P.not .t0) rfl rfl ?_
    refine .dpu rfl (.n rfl) (P.mov .t0) rfl rfl ?_
    refine .split .k0 (fun c5 => ?_) (fun c5 => ?_)
    · rw [if_pos c5] at hj4
      refine .dskl rfl (.g rfl rfl .g0 rfl) (fun _ h => (h.imp (Ls.of (.cons .k4 (.cons .k0 (.cons .k0 (.cons .k0 (.cons .k0 .nil))))))).ro Rs.nil) rfl rfl ?_
      refine .dskg rfl (.g rfl rfl .g0 rfl) (.inr fun _ h => (h.imp (Ls.of (.cons .k4 (.cons .k0 (.cons .k0 (.cons .k0 (.cons .k0 .nil))))))).ro Rs.nil) rfl rfl ?_
      refine .dsk rfl (.g rfl rfl .g0 rfl) rfl rfl ?_
      refine .dpu rfl (.n rfl) (P.pickT .t0 .k) rfl rfl ?_
      refine .dpu rfl (.n rfl) (P.mov .t0) rfl rfl ?_
      refine .dsk rfl (.g rfl rfl .g0 rfl) rfl rfl ?_
      refine .dsk rfl (.g rfl rfl .g0 rfl) rfl rfl ?_
      refine .dsk rfl (.g rfl rfl .g0 rfl) rfl rfl ?_
      refine .dskl rfl (.g rfl rfl .g0 rfl) (fun _ h => (h.imp (Ls.of (.cons .k4 (.cons .k0 (.cons .k0 (.cons .k0 (.cons .k0 .nil))))))).ro Rs.nil) rfl rfl ?_
      refine .dskl rfl (.g rfl rfl .g0 rfl) (fun _ h => (h.imp (Ls.of (.cons .k4 (.cons .k0 (.cons .k0 (.cons .k0 (.cons .k0 .nil))))))).ro Rs.nil) rfl rfl ?_
      refine .dsk rfl (.g rfl rfl .g0 rfl) rfl rfl ?_
      refine .dpu rfl (.n rfl) (P.pickT .t0 .k) rfl rfl ?_
      refine .dpu rfl (.n rfl) (P.mov .t0) rfl rfl ?_
      refine .dsk rfl (.g rfl rfl .g0 rfl) rfl rfl ?_
      refine .dsk rfl (.g rfl rfl .g0 rfl) rfl rfl ?_
      refine .dsk rfl (.g rfl rfl .g0 rfl) rfl rfl ?_
      refine .dskl rfl (.g rfl rfl .g0 rfl) (fun _ h => (h.imp (Ls.of (.cons .k4 (.cons .k0 (.cons .k0 (.cons .k0 (.cons .k0 .nil))))))).ro Rs.nil) rfl rfl ?_
      refine .dskl rfl (.g rfl rfl .g0 rfl) (fun _ h => (h.imp (Ls.of (.cons .k4 (.cons .k0 (.cons .k0 (.cons .k0 (.cons .k0 .nil))))))).ro Rs.nil) rfl rfl ?_
      refine .dskg rfl (.g rfl rfl .g0 rfl) (.inr fun _ h => (h.imp (Ls.of (.cons .k4 (.cons .k0 (.cons .k0 (.cons .k0 (.cons .k0 .nil))))))).ro Rs.nil) rfl rfl ?_
      refine .dpu rfl (.n rfl) (P.pickT .t0 .k) rfl rfl ?_
      refine .dnil ?_
      cases hj4
      exact .stj () (.cons Mm.m0 (.cons Mm.m1 (.cons Mm.m2 .nil))) (.of (.cons .k4 (.cons .k0 (.cons .k0 (.cons .k0 (.cons .k0 .nil)))))) .nil
    · rw [if_neg (ne_true_of_eq_false c5)] at hj4
      refine .dld rfl (.g rfl rfl .g0 rfl) (V.ld (v := Ag (api_Tx.cs a1)) .g1 .k0 (.agg isAgg36 sizeOf36 rfl rfl)) (fun _ h => (h.imp (Ls.of (.cons .k4 (.cons .k0 (.cons .k0 (.cons .k0 (.cons .k0 .nil))))))).ro Rs.nil) rfl rfl ?_
      refine .dgo rfl (.g rfl rfl .g1 rfl) (G.call call26 (.cons .t0 .nil) (S_txs_Check a1 _ rfl) .nil .nil (fun _ _ => rfl) (fun _ _ => rfl) rfl) (.inr fun _ _ _ h => (h.imp (Ls.of (.cons .k4 (.cons .k0 (.cons .k0 (.cons .k0 (.cons .k0 .nil))))))).ro Rs.nil) fun _ _ => ?_
      refine .dpu rfl (.g rfl rfl .g1 rfl) (P.bin .t0 .k .neq) rfl rfl ?_
      refine .dpu rfl (.n rfl) (P.pickF .t1 .t0) rfl rfl ?_
      refine .dpu rfl (.n rfl) (P.mov .t0) rfl rfl ?_
      refine .split .k0 (fun c6 => ?_) (fun c6 => ?_)
      · rw [if_pos c6] at hj4
        refine .dsk rfl (.g rfl rfl .g0 rfl) rfl rfl ?_
        refine .dsk rfl (.g rfl rfl .g0 rfl) rfl rfl ?_
        refine .dsk rfl (.g rfl rfl .g0 rfl) rfl rfl ?_
        refine .dskl rfl (.g rfl rfl .g0 rfl) (fun _ h => (h.imp (Ls.of (.cons .k4 (.cons .k0 (.cons .k0 (.cons .k0 (.cons .k0 .nil))))))).ro Rs.nil) rfl rfl ?_
        refine .dskl rfl (.g rfl rfl .g0 rfl) (fun _ h => (h.imp (Ls.of (.cons .k4 (.cons .k0 (.cons .k0 (.cons .k0 (.cons .k0 .nil))))))).ro Rs.nil) rfl rfl ?_
        refine .dsk rfl (.g rfl rfl .g0 rfl) rfl rfl ?_
        refine .dpu rfl (.n rfl) (P.pickT .t0 .k) rfl rfl ?_
        refine .dpu rfl (.n rfl) (P.mov .t0) rfl rfl ?_
        refine .dsk rfl (.g rfl rfl .g0 rfl) rfl rfl ?_
        refine .dsk rfl (.g rfl rfl .g0 rfl) rfl rfl ?_
        refine .dsk rfl (.g rfl rfl .g0 rfl) rfl rfl ?_
        refine .dskl rfl (.g rfl rfl .g0 rfl) (fun _ h => (h.imp (Ls.of (.cons .k4 (.cons .k0 (.cons .k0 (.cons .k0 (.cons .k0 .nil))))))).ro Rs.nil) rfl rfl ?_
        refine .dskl rfl (.g rfl rfl .g0 rfl) (fun _ h => (h.imp (Ls.of (.cons .k4 (.cons .k0 (.cons .k0 (.cons .k0 (.cons .k0 .nil))))))).ro Rs.nil) rfl rfl ?_
        refine .dskg rfl (.g rfl rfl .g0 rfl) (.inr fun _ h => (h.imp (Ls.of (.cons .k4 (.cons .k0 (.cons .k0 (.cons .k0 (.cons .k0 .nil))))))).ro Rs.nil) rfl rfl ?_
        refine .dpu rfl (.n rfl) (P.pickT .t0 .k) rfl rfl ?_
        refine .dnil ?_
        cases hj4
        exact .stj () (.cons Mm.m0 (.cons Mm.m1 (.cons Mm.m2 .nil))) (.of (.cons .k4 (.cons .k0 (.cons .k0 (.cons .k0 (.cons .k0 .nil)))))) .nil
      · rw [if_neg (ne_true_of_eq_false c6)] at hj4
        refine .dpu rfl (.g rfl rfl .g0 rfl) (P.mov .g2) rfl rfl ?_
        refine .dpu rfl (.g rfl rfl .g1 rfl) (P.nilc .t0) rfl rfl ?_
        refine .dpu rfl (.g rfl rfl .g1 rfl) (P.fa .t0 fa_62_1 rfl) rfl rfl ?_
        refine .dld rfl (.g rfl rfl .g1 rfl) (V.ld (v := z00b) .t0 .k1 (.one isAgg22 rfl)) (fun _ h => (h.imp (Ls.of (.cons .k4 (.cons .k0 (.cons .k0 (.cons .k0 (.cons .k0 .nil))))))).ro Rs.nil) rfl rfl ?_
        refine .dld rfl (.g rfl rfl .g1 rfl) (V.lnl (n := a0.pool.length) .t0 .k3 map_len runUnderlying22) (fun _ h => (h.imp (Ls.of (.cons .k4 (.cons .k0 (.cons .k0 (.cons .k0 (.cons .k0 .nil))))))).ro Rs.nil) rfl rfl ?_
        refine .dpu rfl (.g rfl rfl .g1 rfl) (P.bin .t0 .k .geq) rfl rfl ?_
        refine .dpu rfl (.n rfl) (P.pickF .t1 .t0) rfl rfl ?_
        refine .dpu rfl (.n rfl) (P.mov .t0) rfl rfl ?_
        refine .split .k0 (fun c7 => ?_) (fun c7 => ?_)
        · rw [if_pos c7] at hj4
          refine .dsk rfl (.g rfl rfl .g0 rfl) rfl rfl ?_
          refine .dsk rfl (.g rfl rfl .g0 rfl) rfl rfl ?_
          refine .dsk rfl (.g rfl rfl .g0 rfl) rfl rfl ?_
          refine .dskl rfl (.g rfl rfl .g0 rfl) (fun _ h => (h.imp (Ls.of (.cons .k4 (.cons .k0 (.cons .k0 (.cons .k0 (.cons .k0 .nil))))))).ro Rs.nil) rfl rfl ?_
          refine .dskl rfl (.g rfl rfl .g0 rfl) (fun _ h => (h.imp (Ls.of (.cons .k4 (.cons .k0 (.cons .k0 (.cons .k0 (.cons .k0 .nil))))))).ro Rs.nil) rfl rfl ?_
          refine .dskg rfl (.g rfl rfl .g0 rfl) (.inr fun _ h => (h.imp (Ls.of (.cons .k4 (.cons .k0 (.cons .k0 (.cons .k0 (.cons .k0 .nil))))))).ro Rs.nil) rfl rfl ?_
          refine .dpu rfl (.n rfl) (P.pickT .t0 .k) rfl rfl ?_
          refine .dnil ?_
          cases hj4
          exact .stj () (.cons Mm.m0 (.cons Mm.m1 (.cons Mm.m2 .nil))) (.of (.cons .k4 (.cons .k0 (.cons .k0 (.cons .k0 (.cons .k0 .nil)))))) .nil
        · rw [if_neg (ne_true_of_eq_false c7)] at hj4
          refine .dpu rfl (.g rfl rfl .g0 rfl) (P.mov .g2) rfl rfl ?_
          refine .dpu rfl (.g rfl rfl .g1 rfl) (P.nilc .t0) rfl rfl ?_
          refine .dpu rfl (.g rfl rfl .g1 rfl) (P.fa .t0 fa_62_1 rfl) rfl rfl ?_
          refine .dld rfl (.g rfl rfl .g1 rfl) (V.ld (v := z00b) .t0 .k1 (.one isAgg22 rfl)) (fun _ h => (h.imp (Ls.of (.cons .k4 (.cons .k0 (.cons .k0 (.cons .k0 (.cons .k0 .nil))))))).ro Rs.nil) rfl rfl ?_
          refine .dld rfl (.g rfl rfl .g1 rfl) (V.ld (v := Ag (api_Tx.cs a1)) .g2 .k0 (.agg isAgg36 sizeOf36 rfl rfl)) (fun _ h => (h.imp (Ls.of (.cons .k4 (.cons .k0 (.cons .k0 (.cons .k0 (.cons .k0 .nil))))))).ro Rs.nil) rfl rfl ?_
          obtain ⟨r8, hr9, hj4⟩ := bnd_eq hj4
          refine .dgo rfl (.g rfl rfl .g2 rfl) (G.calll call27 (.cons .t1 (.cons .t0 .nil)) (S_slices_Contains_api_Tx z00b a0.pool a1 r8 hr9) .nil (.imp (List.mem_append_right _ Mm.m2) (fun _ => lst_rows) .nil) (fun _ _ => rfl) rfl) (.inr fun _ _ _ h => (h.imp (Ls.of (.cons .k4 (.cons .k0 (.cons .k0 (.cons .k0 (.cons .k0 .nil))))))).ro Rs.nil) fun _ _ => ?_
          refine .dpu rfl (.n rfl) (P.pickF .t1 .t0) rfl rfl ?_
          refine .dnil ?_
          cases hj4
          exact .stj () (.cons Mm.m0 (.cons Mm.m1 (.cons Mm.m2 .nil))) (.of (.cons .k4 (.cons .k0 (.cons .k0 (.cons .k0 (.cons .k0 .nil)))))) .nil
  · clear hj4
    refine .cond .t0 (fun c10 => ?_) (fun c10 => ?_)
    · rw [if_pos c10] at h
      refine .seq ?_
      refine .reg rfl ?_
      refine .opp (P.asg .k) rfl ?_
      refine .nil ?_
      refine .then ?_
      refine .ret ?_
      refine .thr ?_
      cases h
      exact .finw z00b (.r1 rfl (.tmp .g0)) trivial (Ls.of (.cons .k1 (.cons .k1 (.cons .k1 (.cons .k1 .nil))))) .nil
    · rw [if_neg (ne_true_of_eq_false c10)] at h
      refine .skip ?_
      refine .then ?_
      refine .seq ?_
      obtain ⟨hb13, h⟩ := grd_eq h
      refine .dcut (γ := Value × Value) (φ := fun _ => True) (E1 := fun x_ => []) (L1 := fun x_ => [blk b00 62 (chain_Chain.cs ⟨a0.s, [], a0.events, a0.made⟩ z00a x_.2 z00c), lst 36 25 x_.2 ((a0.pool ++ ([a1] : List api_Tx)).map api_Tx.cs), lst 36 25 x_.1 [(api_Tx.cs a1)], blk b1 36 (api_Tx.cs a1), lst 76 3 z00a (a0.s.Locks.map escrow_Lock.cs), lst 70 27 z00c (a0.events.map api_Event.cs)]) (R1 := fun x_ => []) ?_ (fun x_ _ => ?_)
      · refine .draw 6 (.on 0 .pu (.on 1 .pu (.on 2 .pu (.on 3 .pu (.on 5 .ld (.fk 4 6 (.on 6 .go (.on 7 .go (.on 8 .pu (.on 9 .pu (.on 10 .go .nl))))) (.on 4 .go (.on 7 .go (.on 8 .pu (.on 9 .pu (.on 10 .go .nl))))))))))) follows_mixed (.thn (.thn .body)) (by kernel_rfl) ?_
        refine .dpu rfl (.n rfl) (P.mov .g1) rfl rfl ?_
        refine .dpu rfl (.n rfl) (P.mov .t2) rfl rfl ?_
        refine .dpu rfl (.n rfl) (P.nilc .t0) rfl rfl ?_
        refine .dpu rfl (.n rfl) (P.fa .t0 fa_62_1 rfl) rfl rfl ?_
        refine .dld rfl (.n rfl) (V.ld (v := Ag (api_Tx.cs a1)) .t2 .k0 (.agg isAgg36 sizeOf36 rfl rfl)) (fun _ h => h) rfl rfl ?_
        refine .dfk ?_ ?_
        · refine .dgo rfl (.n rfl) (OpV.g (V.ld (v := z00b) .t1 .k1 (.one isAgg22 rfl)) rfl) (.inr fun _ _ _ h => h) fun _ _ => ?_
          refine .dgo rfl (.n rfl) (G.bsl (cs := (api_Tx.cs a1)) .t1 runUnderlying22 sizeOf36 zeroValue36 rfl rfl rfl rfl rfl) (.inl rfl) fun u11 _ => ?_
          refine .dgo rfl (.n rfl) (G.app (by_ := 224) .t1 .t0 .k4 (.inr (.inr ⟨_, Mm.m0⟩)) runUnderlying22 runUnderlying22 sizeOf36 typeInfo36 rfl rfl zeroValue36 rfl rfl (by simpa using hb13) rfl) (.inl rfl) fun u12 _ => ?_
          refine .conseq .k0 (q := lst 36 25 u12 ((a0.pool ++ ([a1] : List api_Tx)).map api_Tx.cs)) (fun _ hh => by simpa [List.map_append] using hh) ?_
          refine .dpu rfl (.n rfl) (P.nilc .t1) rfl rfl ?_
          refine .dpu rfl (.n rfl) (P.fa .t0 fa_62_1 rfl) rfl rfl ?_
          refine .onel .k0 fun ho14 => ?_
          refine .dgo rfl (.n rfl) (G.str .t1 .t0 .k3 (.mk1 (cs' := (chain_Chain.cs ⟨a0.s, [], a0.events, a0.made⟩ z00a u12 z00c)) sizeOf22 rfl ho14 rfl rfl)) (.inl rfl) fun _ _ => ?_
          refine .dnil ?_
          exact .dst ⟨u11, u12⟩ trivial .nil (Ls.of (.cons .k0 (.cons .k0 (.cons .k0 (.cons .k0 (.cons .k0 (.cons .k0 .nil))))))) .nil
        · refine .dgo rfl (.n rfl) (G.bsl (cs := (api_Tx.cs a1)) .t0 runUnderlying22 sizeOf36 zeroValue36 rfl rfl rfl rfl rfl) (.inl rfl) fun u11 _ => ?_
          refine .dgo rfl (.n rfl) (OpV.g (V.ld (v := z00b) .t1 .k2 (.one isAgg22 rfl)) rfl) (.inl rfl) fun _ _ => ?_
          refine .dgo rfl (.n rfl) (G.app (by_ := 224) .t0 .t0 .k4 (.inr (.inr ⟨_, Mm.m0⟩)) runUnderlying22 runUnderlying22 sizeOf36 typeInfo36 rfl rfl zeroValue36 rfl rfl (by simpa using hb13) rfl) (.inl rfl) fun u12 _ => ?_
          refine .conseq .k0 (q := lst 36 25 u12 ((a0.pool ++ ([a1] : List api_Tx)).map api_Tx.cs)) (fun _ hh => by simpa [List.map_append] using hh) ?_
          refine .dpu rfl (.n rfl) (P.nilc .t1) rfl rfl ?_
          refine .dpu rfl (.n rfl) (P.fa .t0 fa_62_1 rfl) rfl rfl ?_
          refine .onel .k0 fun ho14 => ?_
          refine .dgo rfl (.n rfl) (G.str .t1 .t0 .k3 (.mk1 (cs' := (chain_Chain.cs ⟨a0.s, [], a0.events, a0.made⟩ z00a u12 z00c)) sizeOf22 rfl ho14 rfl rfl)) (.inl rfl) fun _ _ => ?_
          refine .dnil ?_
          exact .dst ⟨u11, u12⟩ trivial .nil (Ls.of (.cons .k0 (.cons .k0 (.cons .k0 (.cons .k0 (.cons .k0 (.cons .k0 .nil))))))) .nil
      · obtain ⟨u11, u12⟩ := x_
        refine .then ?_
        refine .seq ?_
        refine .reg rfl ?_
        refine .opp (P.asg .k) rfl ?_
        refine .nil ?_
        refine .then ?_
        refine .ret ?_
        cases h
        exact .finw u12 (.r1 rfl (.tmp .g0)) trivial (Ls.of (.cons .k0 (.cons .k3 (.cons .k0 (.cons .k2 .nil))))) .nil
attribute [irreducible] chain_Chain_Submit
end Go.Sl
