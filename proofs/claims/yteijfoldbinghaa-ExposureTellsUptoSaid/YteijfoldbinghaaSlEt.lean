/- Walked code of the program, its pure functions and their contracts. -/
import Derived.Test.YteijfoldbinghaaSlHb
set_option linter.unusedVariables false
set_option linter.unusedSimpArgs false
namespace Go.Sl
open Go.Proofs Go.Proofs.Try
structure A2_api_Wide where
  a0 : api_Wide
  a1 : api_Wide
  deriving DecidableEq
def A2_api_Wide.cs (x : A2_api_Wide) : List Value := [U x.a0.a0, U x.a0.a1, U x.a0.a2, U x.a0.a3, U x.a1.a0, U x.a1.a1, U x.a1.a2, U x.a1.a3]
def A2_api_Wide.list (x : A2_api_Wide) : List api_Wide := [x.a0, x.a1]
def A2_api_Wide.set (x : A2_api_Wide) (k : Nat) (v : api_Wide) : A2_api_Wide := ⟨if k = 0 then v else x.a0, if k = 1 then v else x.a1⟩
def A2_api_Wide.z : A2_api_Wide := ⟨api_Wide.z, api_Wide.z⟩
structure purse_Book where
  a0 : A2_api_Wide
  a1 : A2_api_Wide
  a2 : A2_api_Wide
  a3 : A2_api_Wide
  a4 : A2_api_Wide
  a5 : A2_api_Wide
  a6 : A2_api_Wide
  a7 : A2_api_Wide
  deriving DecidableEq
def purse_Book.cs (x : purse_Book) : List Value := [U x.a0.a0.a0, U x.a0.a0.a1, U x.a0.a0.a2, U x.a0.a0.a3, U x.a0.a1.a0, U x.a0.a1.a1, U x.a0.a1.a2, U x.a0.a1.a3, U x.a1.a0.a0, U x.a1.a0.a1, U x.a1.a0.a2, U x.a1.a0.a3, U x.a1.a1.a0, U x.a1.a1.a1, U x.a1.a1.a2, U x.a1.a1.a3, U x.a2.a0.a0, U x.a2.a0.a1, U x.a2.a0.a2, U x.a2.a0.a3, U x.a2.a1.a0, U x.a2.a1.a1, U x.a2.a1.a2, U x.a2.a1.a3, U x.a3.a0.a0, U x.a3.a0.a1, U x.a3.a0.a2, U x.a3.a0.a3, U x.a3.a1.a0, U x.a3.a1.a1, U x.a3.a1.a2, U x.a3.a1.a3, U x.a4.a0.a0, U x.a4.a0.a1, U x.a4.a0.a2, U x.a4.a0.a3, U x.a4.a1.a0, U x.a4.a1.a1, U x.a4.a1.a2, U x.a4.a1.a3, U x.a5.a0.a0, U x.a5.a0.a1, U x.a5.a0.a2, U x.a5.a0.a3, U x.a5.a1.a0, U x.a5.a1.a1, U x.a5.a1.a2, U x.a5.a1.a3, U x.a6.a0.a0, U x.a6.a0.a1, U x.a6.a0.a2, U x.a6.a0.a3, U x.a6.a1.a0, U x.a6.a1.a1, U x.a6.a1.a2, U x.a6.a1.a3, U x.a7.a0.a0, U x.a7.a0.a1, U x.a7.a0.a2, U x.a7.a0.a3, U x.a7.a1.a0, U x.a7.a1.a1, U x.a7.a1.a2, U x.a7.a1.a3]
def purse_Book.list (x : purse_Book) : List A2_api_Wide := [x.a0, x.a1, x.a2, x.a3, x.a4, x.a5, x.a6, x.a7]
def purse_Book.set (x : purse_Book) (k : Nat) (v : A2_api_Wide) : purse_Book := ⟨if k = 0 then v else x.a0, if k = 1 then v else x.a1, if k = 2 then v else x.a2, if k = 3 then v else x.a3, if k = 4 then v else x.a4, if k = 5 then v else x.a5, if k = 6 then v else x.a6, if k = 7 then v else x.a7⟩
def purse_Book.z : purse_Book := ⟨A2_api_Wide.z, A2_api_Wide.z, A2_api_Wide.z, A2_api_Wide.z, A2_api_Wide.z, A2_api_Wide.z, A2_api_Wide.z, A2_api_Wide.z⟩
structure A8_i64 where
  a0 : Int
  a1 : Int
  a2 : Int
  a3 : Int
  a4 : Int
  a5 : Int
  a6 : Int
  a7 : Int
  deriving DecidableEq
def A8_i64.cs (x : A8_i64) : List Value := [N x.a0, N x.a1, N x.a2, N x.a3, N x.a4, N x.a5, N x.a6, N x.a7]
def A8_i64.list (x : A8_i64) : List Int := [x.a0, x.a1, x.a2, x.a3, x.a4, x.a5, x.a6, x.a7]
def A8_i64.set (x : A8_i64) (k : Nat) (v : Int) : A8_i64 := ⟨if k = 0 then v else x.a0, if k = 1 then v else x.a1, if k = 2 then v else x.a2, if k = 3 then v else x.a3, if k = 4 then v else x.a4, if k = 5 then v else x.a5, if k = 6 then v else x.a6, if k = 7 then v else x.a7⟩
def A8_i64.z : A8_i64 := ⟨0, 0, 0, 0, 0, 0, 0, 0⟩
structure escrow_Lock where
  Key : ByteArray
  Digest : ByteArray
  Status : Int
  deriving DecidableEq
def escrow_Lock.cs (x : escrow_Lock) : List Value := [.string x.Key, .string x.Digest, N x.Status]
def escrow_Lock.z : escrow_Lock := ⟨⟨#[]⟩, ⟨#[]⟩, 0⟩
structure escrow_State where
  Side : Int
  Time : Int
  Purse : purse_Book
  Vault : purse_Book
  Nonces : A8_i64
  Held : A2_api_Wide
  Burnt : api_Wide
  Locks : List escrow_Lock
  deriving DecidableEq
def escrow_State.cs (x : escrow_State) (z0 : Value) : List Value := [N x.Side, N x.Time, U x.Purse.a0.a0.a0, U x.Purse.a0.a0.a1, U x.Purse.a0.a0.a2, U x.Purse.a0.a0.a3, U x.Purse.a0.a1.a0, U x.Purse.a0.a1.a1, U x.Purse.a0.a1.a2, U x.Purse.a0.a1.a3, U x.Purse.a1.a0.a0, U x.Purse.a1.a0.a1, U x.Purse.a1.a0.a2, U x.Purse.a1.a0.a3, U x.Purse.a1.a1.a0, U x.Purse.a1.a1.a1, U x.Purse.a1.a1.a2, U x.Purse.a1.a1.a3, U x.Purse.a2.a0.a0, U x.Purse.a2.a0.a1, U x.Purse.a2.a0.a2, U x.Purse.a2.a0.a3, U x.Purse.a2.a1.a0, U x.Purse.a2.a1.a1, U x.Purse.a2.a1.a2, U x.Purse.a2.a1.a3, U x.Purse.a3.a0.a0, U x.Purse.a3.a0.a1, U x.Purse.a3.a0.a2, U x.Purse.a3.a0.a3, U x.Purse.a3.a1.a0, U x.Purse.a3.a1.a1, U x.Purse.a3.a1.a2, U x.Purse.a3.a1.a3, U x.Purse.a4.a0.a0, U x.Purse.a4.a0.a1, U x.Purse.a4.a0.a2, U x.Purse.a4.a0.a3, U x.Purse.a4.a1.a0, U x.Purse.a4.a1.a1, U x.Purse.a4.a1.a2, U x.Purse.a4.a1.a3, U x.Purse.a5.a0.a0, U x.Purse.a5.a0.a1, U x.Purse.a5.a0.a2, U x.Purse.a5.a0.a3, U x.Purse.a5.a1.a0, U x.Purse.a5.a1.a1, U x.Purse.a5.a1.a2, U x.Purse.a5.a1.a3, U x.Purse.a6.a0.a0, U x.Purse.a6.a0.a1, U x.Purse.a6.a0.a2, U x.Purse.a6.a0.a3, U x.Purse.a6.a1.a0, U x.Purse.a6.a1.a1, U x.Purse.a6.a1.a2, U x.Purse.a6.a1.a3, U x.Purse.a7.a0.a0, U x.Purse.a7.a0.a1, U x.Purse.a7.a0.a2, U x.Purse.a7.a0.a3, U x.Purse.a7.a1.a0, U x.Purse.a7.a1.a1, U x.Purse.a7.a1.a2, U x.Purse.a7.a1.a3, U x.Vault.a0.a0.a0, U x.Vault.a0.a0.a1, U x.Vault.a0.a0.a2, U x.Vault.a0.a0.a3, U x.Vault.a0.a1.a0, U x.Vault.a0.a1.a1, U x.Vault.a0.a1.a2, U x.Vault.a0.a1.a3, U x.Vault.a1.a0.a0, U x.Vault.a1.a0.a1, U x.Vault.a1.a0.a2, U x.Vault.a1.a0.a3, U x.Vault.a1.a1.a0, U x.Vault.a1.a1.a1, U x.Vault.a1.a1.a2, U x.Vault.a1.a1.a3, U x.Vault.a2.a0.a0, U x.Vault.a2.a0.a1, U x.Vault.a2.a0.a2, U x.Vault.a2.a0.a3, U x.Vault.a2.a1.a0, U x.Vault.a2.a1.a1, U x.Vault.a2.a1.a2, U x.Vault.a2.a1.a3, U x.Vault.a3.a0.a0, U x.Vault.a3.a0.a1, U x.Vault.a3.a0.a2, U x.Vault.a3.a0.a3, U x.Vault.a3.a1.a0, U x.Vault.a3.a1.a1, U x.Vault.a3.a1.a2, U x.Vault.a3.a1.a3, U x.Vault.a4.a0.a0, U x.Vault.a4.a0.a1, U x.Vault.a4.a0.a2, U x.Vault.a4.a0.a3, U x.Vault.a4.a1.a0, U x.Vault.a4.a1.a1, U x.Vault.a4.a1.a2, U x.Vault.a4.a1.a3, U x.Vault.a5.a0.a0, U x.Vault.a5.a0.a1, U x.Vault.a5.a0.a2, U x.Vault.a5.a0.a3, U x.Vault.a5.a1.a0, U x.Vault.a5.a1.a1, U x.Vault.a5.a1.a2, U x.Vault.a5.a1.a3, U x.Vault.a6.a0.a0, U x.Vault.a6.a0.a1, U x.Vault.a6.a0.a2, U x.Vault.a6.a0.a3, U x.Vault.a6.a1.a0, U x.Vault.a6.a1.a1, U x.Vault.a6.a1.a2, U x.Vault.a6.a1.a3, U x.Vault.a7.a0.a0, U x.Vault.a7.a0.a1, U x.Vault.a7.a0.a2, U x.Vault.a7.a0.a3, U x.Vault.a7.a1.a0, U x.Vault.a7.a1.a1, U x.Vault.a7.a1.a2, U x.Vault.a7.a1.a3, N x.Nonces.a0, N x.Nonces.a1, N x.Nonces.a2, N x.Nonces.a3, N x.Nonces.a4, N x.Nonces.a5, N x.Nonces.a6, N x.Nonces.a7, U x.Held.a0.a0, U x.Held.a0.a1, U x.Held.a0.a2, U x.Held.a0.a3, U x.Held.a1.a0, U x.Held.a1.a1, U x.Held.a1.a2, U x.Held.a1.a3, U x.Burnt.a0, U x.Burnt.a1, U x.Burnt.a2, U x.Burnt.a3, z0]
def escrow_State.z : escrow_State := ⟨0, 0, purse_Book.z, purse_Book.z, A8_i64.z, A2_api_Wide.z, api_Wide.z, []⟩
structure api_Var where
  Amount : api_Wide
  Expiry : Int
  deriving DecidableEq
def api_Var.cs (x : api_Var) : List Value := [U x.Amount.a0, U x.Amount.a1, U x.Amount.a2, U x.Amount.a3, N x.Expiry]
def api_Var.z : api_Var := ⟨api_Wide.z, 0⟩
structure api_Tx where
  From : Int
  Nonce : Int
  Kind : Int
  Asset : Int
  Amount : api_Wide
  Inv : api_Inv
  Var : api_Var
  Fee : api_Wide
  Sig : ByteArray
  deriving DecidableEq
def api_Tx.cs (x : api_Tx) : List Value := [N x.From, N x.Nonce, N x.Kind, N x.Asset, U x.Amount.a0, U x.Amount.a1, U x.Amount.a2, U x.Amount.a3, N x.Inv.User, .string x.Inv.Root, N x.Inv.Router, N x.Inv.Send, N x.Inv.Recv, N x.Inv.To, .string x.Inv.Id, U x.Var.Amount.a0, U x.Var.Amount.a1, U x.Var.Amount.a2, U x.Var.Amount.a3, N x.Var.Expiry, U x.Fee.a0, U x.Fee.a1, U x.Fee.a2, U x.Fee.a3, .string x.Sig]
def api_Tx.z : api_Tx := ⟨0, 0, 0, 0, api_Wide.z, api_Inv.z, api_Var.z, api_Wide.z, ⟨#[]⟩⟩
structure api_Event where
  Time : Int
  Code : Int
  Tx : api_Tx
  deriving DecidableEq
def api_Event.cs (x : api_Event) : List Value := [N x.Time, N x.Code, N x.Tx.From, N x.Tx.Nonce, N x.Tx.Kind, N x.Tx.Asset, U x.Tx.Amount.a0, U x.Tx.Amount.a1, U x.Tx.Amount.a2, U x.Tx.Amount.a3, N x.Tx.Inv.User, .string x.Tx.Inv.Root, N x.Tx.Inv.Router, N x.Tx.Inv.Send, N x.Tx.Inv.Recv, N x.Tx.Inv.To, .string x.Tx.Inv.Id, U x.Tx.Var.Amount.a0, U x.Tx.Var.Amount.a1, U x.Tx.Var.Amount.a2, U x.Tx.Var.Amount.a3, N x.Tx.Var.Expiry, U x.Tx.Fee.a0, U x.Tx.Fee.a1, U x.Tx.Fee.a2, U x.Tx.Fee.a3, .string x.Tx.Sig]
def api_Event.z : api_Event := ⟨0, 0, api_Tx.z⟩
structure exposure_Row where
  Router : Int
  Vault : A2_api_Wide
  Out : A2_api_Wide
  Open : Int
  deriving DecidableEq
def exposure_Row.cs (x : exposure_Row) : List Value := [N x.Router, U x.Vault.a0.a0, U x.Vault.a0.a1, U x.Vault.a0.a2, U x.Vault.a0.a3, U x.Vault.a1.a0, U x.Vault.a1.a1, U x.Vault.a1.a2, U x.Vault.a1.a3, U x.Out.a0.a0, U x.Out.a0.a1, U x.Out.a0.a2, U x.Out.a0.a3, U x.Out.a1.a0, U x.Out.a1.a1, U x.Out.a1.a2, U x.Out.a1.a3, N x.Open]
def exposure_Row.z : exposure_Row := ⟨0, A2_api_Wide.z, A2_api_Wide.z, 0⟩
theorem fa_34_0 : FaV Try.prog 34 0 0 := .mk runUnderlying34 rfl sizeOf27 rfl rfl
theorem fa_36_2 : FaV Try.prog 36 2 2 := .mk runUnderlying36 rfl sizeOf3 rfl rfl
theorem fa_36_5 : FaV Try.prog 36 5 8 := .mk runUnderlying36 rfl sizeOf32 rfl rfl
theorem fa_36_6 : FaV Try.prog 36 6 15 := .mk runUnderlying36 rfl sizeOf34 rfl rfl
theorem fa_38_1 : FaV Try.prog 38 1 1 := .mk runUnderlying38 rfl sizeOf30 rfl rfl
theorem fa_38_2 : FaV Try.prog 38 2 2 := .mk runUnderlying38 rfl sizeOf36 rfl rfl
theorem fa_64_0 : FaV Try.prog 64 0 0 := .mk runUnderlying64 rfl sizeOf3 rfl rfl
theorem fa_64_3 : FaV Try.prog 64 3 66 := .mk runUnderlying64 rfl sizeOf60 rfl rfl
theorem fa_64_7 : FaV Try.prog 64 7 150 := .mk runUnderlying64 rfl sizeOf62 rfl rfl
theorem fa_83_0 : FaV Try.prog 83 0 0 := .mk runUnderlying83 rfl sizeOf3 rfl rfl
theorem fa_83_2 : FaV Try.prog 83 2 9 := .mk runUnderlying83 rfl sizeOf54 rfl rfl
theorem fa_83_3 : FaV Try.prog 83 3 17 := .mk runUnderlying83 rfl sizeOf3 rfl rfl
theorem fa_150_0 : FaV Try.prog 150 0 0 := .mk runUnderlying150 rfl sizeOf9 rfl rfl
theorem fa_150_2 : FaV Try.prog 150 2 2 := .mk runUnderlying150 rfl sizeOf3 rfl rfl
theorem pl_64 : ∀ w, ((#[{ name := "Side", type := 3, offset := 0, embedded := false, tag := "", pkgPath := "", byteOffset := 0 }, { name := "Time", type := 3, offset := 1, embedded := false, tag := "", pkgPath := "", byteOffset := 8 }, { name := "Purse", type := 60, offset := 2, embedded := false, tag := "", pkgPath := "", byteOffset := 16 }, { name := "Vault", type := 60, offset := 66, embedded := false, tag := "", pkgPath := "", byteOffset := 528 }, { name := "Nonces", type := 61, offset := 130, embedded := false, tag := "", pkgPath := "", byteOffset := 1040 }, { name := "Held", type := 54, offset := 138, embedded := false, tag := "", pkgPath := "", byteOffset := 1104 }, { name := "Burnt", type := 27, offset := 146, embedded := false, tag := "", pkgPath := "", byteOffset := 1168 }, { name := "Locks", type := 62, offset := 150, embedded := false, tag := "", pkgPath := "", byteOffset := 1200 }] : Array Field).mapM fun f => do pure (f.offset, ← sizeOf f.type) : Sem (Array (Nat × Nat))).run Try.prog w = .ok #[(0, 1), (1, 1), (2, 64), (66, 64), (130, 8), (138, 8), (146, 4), (150, 1)] w := fun w => by simp [sizeOf3, sizeOf27, sizeOf54, sizeOf60, sizeOf61, sizeOf62]
theorem pl_83 : ∀ w, ((#[{ name := "Router", type := 3, offset := 0, embedded := false, tag := "", pkgPath := "", byteOffset := 0 }, { name := "Vault", type := 54, offset := 1, embedded := false, tag := "", pkgPath := "", byteOffset := 8 }, { name := "Out", type := 54, offset := 9, embedded := false, tag := "", pkgPath := "", byteOffset := 72 }, { name := "Open", type := 3, offset := 17, embedded := false, tag := "", pkgPath := "", byteOffset := 136 }] : Array Field).mapM fun f => do pure (f.offset, ← sizeOf f.type) : Sem (Array (Nat × Nat))).run Try.prog w = .ok #[(0, 1), (1, 8), (9, 8), (17, 1)] w := fun w => by simp [sizeOf3, sizeOf54]
theorem one_36 (x : api_Tx) : oneAll (api_Tx.cs x) = true := rfl
theorem one_83 (x : exposure_Row) : oneAll (exposure_Row.cs x) = true := rfl
theorem onez_64 (x : escrow_State) {z0 : Value} (hz0 : z0.oneCell' = true) : oneAll (escrow_State.cs x z0) = true := by
  simp only [oneAll, escrow_State.cs, List.all_cons, List.all_nil, hz0]
  rfl
theorem eqv_27 (d : Nat) (x y : api_Wide) : EqV Try.prog (d + 2) 27 (Ag x.cs) (Ag y.cs) (decide (x = y)) :=
  EqV.cast (.array (by kernel_rfl) sizeOf25 (.cons (.one isAgg25 rfl) (.one isAgg25 rfl) (EqV.u (by kernel_rfl)) (.cons (.one isAgg25 rfl) (.one isAgg25 rfl) (EqV.u (by kernel_rfl)) (.cons (.one isAgg25 rfl) (.one isAgg25 rfl) (EqV.u (by kernel_rfl)) (.cons (.one isAgg25 rfl) (.one isAgg25 rfl) (EqV.u (by kernel_rfl)) .nil))))) (by cases x; cases y; rw [Bool.eq_iff_iff]; simp [api_Wide.mk.injEq, and_assoc])
theorem eq_27_eql (x y : api_Wide) : BinV Try.prog .eql 27 (Ag x.cs) (Ag y.cs) (Bo (decide (x = y))) := .eqv (by kernel_rfl) (eqv_27 9998 x y)
theorem eq_27_neq (x y : api_Wide) : BinV Try.prog .neq 27 (Ag x.cs) (Ag y.cs) (Bo (decide (x ≠ y))) := by
  have := BinV.neqv (P := Try.prog) (by kernel_rfl) (eqv_27 9998 x y); rw [← decide_not'] at this; exact this
theorem eqv_54 (d : Nat) (x y : A2_api_Wide) : EqV Try.prog (d + 3) 54 (Ag x.cs) (Ag y.cs) (decide (x = y)) :=
  EqV.cast (.array (by kernel_rfl) sizeOf27 (.cons (.agg isAgg27 sizeOf27 (by kernel_rfl)) (.agg isAgg27 sizeOf27 (by kernel_rfl)) (eqv_27 _ x.a0 y.a0) (.cons (.agg isAgg27 sizeOf27 (by kernel_rfl)) (.agg isAgg27 sizeOf27 (by kernel_rfl)) (eqv_27 _ x.a1 y.a1) .nil))) (by cases x; cases y; rw [Bool.eq_iff_iff]; simp [A2_api_Wide.mk.injEq, and_assoc])
theorem eq_54_eql (x y : A2_api_Wide) : BinV Try.prog .eql 54 (Ag x.cs) (Ag y.cs) (Bo (decide (x = y))) := .eqv (by kernel_rfl) (eqv_54 9997 x y)
theorem eq_54_neq (x y : A2_api_Wide) : BinV Try.prog .neq 54 (Ag x.cs) (Ag y.cs) (Bo (decide (x ≠ y))) := by
  have := BinV.neqv (P := Try.prog) (by kernel_rfl) (eqv_54 9997 x y); rw [← decide_not'] at this; exact this
theorem eqv_83 (d : Nat) (x y : exposure_Row) : EqV Try.prog (d + 4) 83 (Ag x.cs) (Ag y.cs) (decide (x = y)) :=
  EqV.cast (.struct (fs := [{ name := "Router", type := 3, offset := 0, embedded := false, tag := "", pkgPath := "", byteOffset := 0 }, { name := "Vault", type := 54, offset := 1, embedded := false, tag := "", pkgPath := "", byteOffset := 8 }, { name := "Out", type := 54, offset := 9, embedded := false, tag := "", pkgPath := "", byteOffset := 72 }, { name := "Open", type := 3, offset := 17, embedded := false, tag := "", pkgPath := "", byteOffset := 136 }]) (by kernel_rfl) (by kernel_rfl) (.cons rfl (.one isAgg3 rfl) (.one isAgg3 rfl) (EqV.int (by kernel_rfl)) (.cons rfl (.agg isAgg54 sizeOf54 (by kernel_rfl)) (.agg isAgg54 sizeOf54 (by kernel_rfl)) (eqv_54 _ x.Vault y.Vault) (.cons rfl (.agg isAgg54 sizeOf54 (by kernel_rfl)) (.agg isAgg54 sizeOf54 (by kernel_rfl)) (eqv_54 _ x.Out y.Out) (.cons rfl (.one isAgg3 rfl) (.one isAgg3 rfl) (EqV.int (by kernel_rfl)) .nil))))) (by cases x; cases y; rw [Bool.eq_iff_iff]; simp [exposure_Row.mk.injEq, and_assoc])
theorem eq_83_eql (x y : exposure_Row) : BinV Try.prog .eql 83 (Ag x.cs) (Ag y.cs) (Bo (decide (x = y))) := .eqv (by kernel_rfl) (eqv_83 9996 x y)
theorem eq_83_neq (x y : exposure_Row) : BinV Try.prog .neq 83 (Ag x.cs) (Ag y.cs) (Bo (decide (x ≠ y))) := by
  have := BinV.neqv (P := Try.prog) (by kernel_rfl) (eqv_83 9996 x y); rw [← decide_not'] at this; exact this
noncomputable def purse_Even (a0 : UInt64) : purse_Book :=
  ⟨⟨(wide_Of a0), (wide_Of a0)⟩, ⟨(wide_Of a0), (wide_Of a0)⟩, ⟨(wide_Of a0), (wide_Of a0)⟩, ⟨(wide_Of a0), (wide_Of a0)⟩, ⟨(wide_Of a0), (wide_Of a0)⟩, ⟨(wide_Of a0), (wide_Of a0)⟩, ⟨(wide_Of a0), (wide_Of a0)⟩, ⟨(wide_Of a0), (wide_Of a0)⟩⟩
set_option maxRecDepth 20000 in
set_option maxHeartbeats 1000000 in
theorem S_purse_Even (a0 : UInt64) (r : purse_Book) (h : purse_Even a0 = r) :
    SpecF Try.prog 112 [U a0] [] [] (fun _ : Unit => True) (fun z => Ag (purse_Book.cs r)) (fun z M =>  M) (fun z M =>  M) := by
  refine .of func112 rfl ntmps112 rfl fun w0 D0 G0 => ?_
  unfold purse_Even at h
  refine .seq ?_
  refine .reg rfl ?_
  refine .opx (X.alc (cs := (purse_Book.cs ⟨⟨⟨0, 0, 0, 0⟩, ⟨0, 0, 0, 0⟩⟩, ⟨⟨0, 0, 0, 0⟩, ⟨0, 0, 0, 0⟩⟩, ⟨⟨0, 0, 0, 0⟩, ⟨0, 0, 0, 0⟩⟩, ⟨⟨0, 0, 0, 0⟩, ⟨0, 0, 0, 0⟩⟩, ⟨⟨0, 0, 0, 0⟩, ⟨0, 0, 0, 0⟩⟩, ⟨⟨0, 0, 0, 0⟩, ⟨0, 0, 0, 0⟩⟩, ⟨⟨0, 0, 0, 0⟩, ⟨0, 0, 0, 0⟩⟩, ⟨⟨0, 0, 0, 0⟩, ⟨0, 0, 0, 0⟩⟩⟩)) zeroValue60 rfl) rfl fun b1 => ?_
  refine .nil ?_
  refine .then ?_
  refine .seq ?_
  refine .reg rfl ?_
  refine .opx (X.alc (cs := (purse_Book.cs ⟨⟨⟨0, 0, 0, 0⟩, ⟨0, 0, 0, 0⟩⟩, ⟨⟨0, 0, 0, 0⟩, ⟨0, 0, 0, 0⟩⟩, ⟨⟨0, 0, 0, 0⟩, ⟨0, 0, 0, 0⟩⟩, ⟨⟨0, 0, 0, 0⟩, ⟨0, 0, 0, 0⟩⟩, ⟨⟨0, 0, 0, 0⟩, ⟨0, 0, 0, 0⟩⟩, ⟨⟨0, 0, 0, 0⟩, ⟨0, 0, 0, 0⟩⟩, ⟨⟨0, 0, 0, 0⟩, ⟨0, 0, 0, 0⟩⟩, ⟨⟨0, 0, 0, 0⟩, ⟨0, 0, 0, 0⟩⟩⟩)) zeroValue60 rfl) rfl fun b2 => ?_
  refine .nil ?_
  refine .then ?_
  refine .seq ?_
  refine .seq ?_
  refine .reg rfl ?_
  refine .opp (P.mov .k) rfl ?_
  refine .nil ?_
  refine .then ?_
  refine .block ?_
  refine .rounds 9 ?_
  refine .rd ?_
  refine .seq ?_
  refine .reg rfl ?_
  refine .opp (P.bin (v := Bo true) .g0 .k (BinV.lss.boolc (by decide))) rfl ?_
  refine .nil ?_
  refine .then ?_
  refine .seq ?_
  refine .condT .t0 ?_
  refine .skip ?_
  refine .then ?_
  refine .seq ?_
  refine .block ?_
  refine .seq ?_
  refine .reg rfl ?_
  refine .opp (P.mov .g0) rfl ?_
  refine .opp (P.asg .t0) rfl ?_
  refine .nil ?_
  refine .then ?_
  refine .seq ?_
  refine .reg rfl ?_
  refine .opp (P.mov .k) rfl ?_
  refine .nil ?_
  refine .then ?_
  refine .block ?_
  refine .rounds 3 ?_
  refine .rd ?_
  refine .seq ?_
  refine .reg rfl ?_
  refine .opp (P.bin (v := Bo true) .g0 .k (BinV.lss.boolc (by decide))) rfl ?_
  refine .nil ?_
  refine .then ?_
  refine .seq ?_
  refine .condT .t0 ?_
  refine .skip ?_
  refine .then ?_
  refine .seq ?_
  refine .block ?_
  refine .seq ?_
  refine .reg rfl ?_
  refine .opp (P.mov .g0) rfl ?_
  refine .opp (P.asg .t0) rfl ?_
  refine .nil ?_
  refine .then ?_
  refine .drawl [blk b1 60 (purse_Book.cs ⟨⟨⟨0, 0, 0, 0⟩, ⟨0, 0, 0, 0⟩⟩, ⟨⟨0, 0, 0, 0⟩, ⟨0, 0, 0, 0⟩⟩, ⟨⟨0, 0, 0, 0⟩, ⟨0, 0, 0, 0⟩⟩, ⟨⟨0, 0, 0, 0⟩, ⟨0, 0, 0, 0⟩⟩, ⟨⟨0, 0, 0, 0⟩, ⟨0, 0, 0, 0⟩⟩, ⟨⟨0, 0, 0, 0⟩, ⟨0, 0, 0, 0⟩⟩, ⟨⟨0, 0, 0, 0⟩, ⟨0, 0, 0, 0⟩⟩, ⟨⟨0, 0, 0, 0⟩, ⟨0, 0, 0, 0⟩⟩⟩)] [] (Ls.of (.cons .k1 .nil)) Rs.nil 7 (.on 0 .pu (.on 1 .pu (.on 2 .pu (.on 4 .pu (.on 3 .go (.on 5 .pu (.on 6 .go .nl))))))) follows_mixed (.inb (.thn (.thn (.inb (.inb (.thn (.thn (.inb (.thn .body))))))))) (by kernel_rfl) ?_
  refine .dpu rfl (.n rfl) (P.mov .g2) rfl rfl ?_
  refine .dpu rfl (.n rfl) (P.mov .t1) rfl rfl ?_
  refine .dpu rfl (.n rfl) (P.mov .g7) rfl rfl ?_
  refine .dpu rfl (.n rfl) (P.iac (i := 0) .t2 rfl .g5 runUnderlying60 sizeOf54 rfl rfl) rfl rfl ?_
  refine .dgo rfl (.n rfl) (G.call call74 (.cons .t1 .nil) (S_wide_Of a0 _ rfl) .nil .nil (fun _ _ => rfl) (fun _ _ => rfl) rfl) (.inr fun _ _ _ h => (h.imp (Ls.of (.cons .k1 .nil))).ro Rs.nil) fun _ _ => ?_
  refine .dpu rfl (.n rfl) (P.iac (i := 0) .t2 rfl .t1 runUnderlying54 sizeOf27 rfl rfl) rfl rfl ?_
  refine .dgo rfl (.n rfl) (G.str .t1 .t0 .k0 (.mk (cs' := (purse_Book.cs ⟨⟨(wide_Of a0), ⟨0, 0, 0, 0⟩⟩, ⟨⟨0, 0, 0, 0⟩, ⟨0, 0, 0, 0⟩⟩, ⟨⟨0, 0, 0, 0⟩, ⟨0, 0, 0, 0⟩⟩, ⟨⟨0, 0, 0, 0⟩, ⟨0, 0, 0, 0⟩⟩, ⟨⟨0, 0, 0, 0⟩, ⟨0, 0, 0, 0⟩⟩, ⟨⟨0, 0, 0, 0⟩, ⟨0, 0, 0, 0⟩⟩, ⟨⟨0, 0, 0, 0⟩, ⟨0, 0, 0, 0⟩⟩, ⟨⟨0, 0, 0, 0⟩, ⟨0, 0, 0, 0⟩⟩⟩)) sizeOf27 rfl rfl rfl rfl)) (.inr fun _ _ _ h => (h.imp (Ls.of (.cons .k1 .nil))).ro Rs.nil) fun _ _ => ?_
  refine .dnil ?_
  refine .inn ?_
  refine .then ?_
  refine .reg rfl ?_
  refine .opp (P.bin (v := N 1) .g0 .k (.addc (by decide))) rfl ?_
  refine .drop .k1 ?_
  refine .opp (P.mov .t0) rfl ?_
  refine .nil ?_
  refine .then ?_
  refine .rd ?_
  refine .seq ?_
  refine .reg rfl ?_
  refine .opp (P.bin (v := Bo true) .g0 .k (BinV.lss.boolc (by decide))) rfl ?_
  refine .nil ?_
  refine .then ?_
  refine .seq ?_
  refine .condT .t0 ?_
  refine .skip ?_
  refine .then ?_
  refine .seq ?_
  refine .block ?_
  refine .seq ?_
  refine .reg rfl ?_
  refine .opp (P.mov .g0) rfl ?_
  refine .opp (P.asg .t0) rfl ?_
  refine .nil ?_
  refine .then ?_
  refine .drawl [blk b1 60 (purse_Book.cs ⟨⟨⟨0, 0, 0, 0⟩, ⟨0, 0, 0, 0⟩⟩, ⟨⟨0, 0, 0, 0⟩, ⟨0, 0, 0, 0⟩⟩, ⟨⟨0, 0, 0, 0⟩, ⟨0, 0, 0, 0⟩⟩, ⟨⟨0, 0, 0, 0⟩, ⟨0, 0, 0, 0⟩⟩, ⟨⟨0, 0, 0, 0⟩, ⟨0, 0, 0, 0⟩⟩, ⟨⟨0, 0, 0, 0⟩, ⟨0, 0, 0, 0⟩⟩, ⟨⟨0, 0, 0, 0⟩, ⟨0, 0, 0, 0⟩⟩, ⟨⟨0, 0, 0, 0⟩, ⟨0, 0, 0, 0⟩⟩⟩)] [] (Ls.of (.cons .k1 .nil)) Rs.nil 7 (.on 0 .pu (.on 1 .pu (.on 2 .pu (.on 4 .pu (.on 3 .go (.on 5 .pu (.on 6 .go .nl))))))) follows_mixed (.inb (.thn (.thn (.inb (.inb (.thn (.thn (.inb (.thn .body))))))))) (by kernel_rfl) ?_
  refine .dpu rfl (.n rfl) (P.mov .g2) rfl rfl ?_
  refine .dpu rfl (.n rfl) (P.mov .t1) rfl rfl ?_
  refine .dpu rfl (.n rfl) (P.mov .g7) rfl rfl ?_
  refine .dpu rfl (.n rfl) (P.iac (i := 0) .t2 rfl .g5 runUnderlying60 sizeOf54 rfl rfl) rfl rfl ?_
  refine .dgo rfl (.n rfl) (G.call call74 (.cons .t1 .nil) (S_wide_Of a0 _ rfl) .nil .nil (fun _ _ => rfl) (fun _ _ => rfl) rfl) (.inr fun _ _ _ h => (h.imp (Ls.of (.cons .k1 .nil))).ro Rs.nil) fun _ _ => ?_
  refine .dpu rfl (.n rfl) (P.iac (i := 1) .t2 rfl .t1 runUnderlying54 sizeOf27 rfl rfl) rfl rfl ?_
  refine .dgo rfl (.n rfl) (G.str .t1 .t0 .k0 (.mk (cs' := (purse_Book.cs ⟨⟨(wide_Of a0), (wide_Of a0)⟩, ⟨⟨0, 0, 0, 0⟩, ⟨0, 0, 0, 0⟩⟩, ⟨⟨0, 0, 0, 0⟩, ⟨0, 0, 0, 0⟩⟩, ⟨⟨0, 0, 0, 0⟩, ⟨0, 0, 0, 0⟩⟩, ⟨⟨0, 0, 0, 0⟩, ⟨0, 0, 0, 0⟩⟩, ⟨⟨0, 0, 0, 0⟩, ⟨0, 0, 0, 0⟩⟩, ⟨⟨0, 0, 0, 0⟩, ⟨0, 0, 0, 0⟩⟩, ⟨⟨0, 0, 0, 0⟩, ⟨0, 0, 0, 0⟩⟩⟩)) sizeOf27 rfl rfl rfl rfl)) (.inr fun _ _ _ h => (h.imp (Ls.of (.cons .k1 .nil))).ro Rs.nil) fun _ _ => ?_
  refine .dnil ?_
  refine .inn ?_
  refine .then ?_
  refine .reg rfl ?_
  refine .opp (P.bin (v := N 2) .g0 .k (.addc (by decide))) rfl ?_
  refine .drop .k1 ?_
  refine .opp (P.mov .t0) rfl ?_
  refine .nil ?_
  refine .then ?_
  refine .rd ?_
  refine .seq ?_
  refine .reg rfl ?_
  refine .opp (P.bin (v := Bo false) .g0 .k (BinV.lss.boolc (by decide))) rfl ?_
  refine .nil ?_
  refine .then ?_
  refine .seq ?_
  refine .condF .t0 ?_
  refine .exit ?_
  refine .thx ?_
  refine .thx ?_
  refine .inb ?_
  refine .inn ?_
  refine .then ?_
  refine .reg rfl ?_
  refine .opp (P.bin (v := N 1) .g2 .k (.addc (by decide))) rfl ?_
  refine .drop .k3 ?_
  refine .opp (P.mov .t0) rfl ?_
  refine .nil ?_
  refine .then ?_
  refine .rd ?_
  refine .seq ?_
  refine .reg rfl ?_
  refine .opp (P.bin (v := Bo true) .g0 .k (BinV.lss.boolc (by decide))) rfl ?_
  refine .nil ?_
  refine .then ?_
  refine .seq ?_
  refine .condT .t0 ?_
  refine .skip ?_
  refine .then ?_
  refine .seq ?_
  refine .block ?_
  refine .seq ?_
  refine .reg rfl ?_
  refine .opp (P.mov .g0) rfl ?_
  refine .drop .k3 ?_
  refine .opp (P.asg .t0) rfl ?_
  refine .nil ?_
  refine .then ?_
  refine .seq ?_
  refine .reg rfl ?_
  refine .drop .k2 ?_
  refine .opp (P.mov .k) rfl ?_
  refine .nil ?_
  refine .then ?_
  refine .block ?_
  refine .rounds 3 ?_
  refine .rd ?_
  refine .seq ?_
  refine .reg rfl ?_
  refine .opp (P.bin (v := Bo true) .g0 .k (BinV.lss.boolc (by decide))) rfl ?_
  refine .nil ?_
  refine .then ?_
  refine .seq ?_
  refine .condT .t0 ?_
  refine .skip ?_
  refine .then ?_
  refine .seq ?_
  refine .block ?_
  refine .seq ?_
  refine .reg rfl ?_
  refine .opp (P.mov .g0) rfl ?_
  refine .opp (P.asg .t0) rfl ?_
  refine .nil ?_
  refine .then ?_
  refine .drawl [blk b1 60 (purse_Book.cs ⟨⟨⟨0, 0, 0, 0⟩, ⟨0, 0, 0, 0⟩⟩, ⟨⟨0, 0, 0, 0⟩, ⟨0, 0, 0, 0⟩⟩, ⟨⟨0, 0, 0, 0⟩, ⟨0, 0, 0, 0⟩⟩, ⟨⟨0, 0, 0, 0⟩, ⟨0, 0, 0, 0⟩⟩, ⟨⟨0, 0, 0, 0⟩, ⟨0, 0, 0, 0⟩⟩, ⟨⟨0, 0, 0, 0⟩, ⟨0, 0, 0, 0⟩⟩, ⟨⟨0, 0, 0, 0⟩, ⟨0, 0, 0, 0⟩⟩, ⟨⟨0, 0, 0, 0⟩, ⟨0, 0, 0, 0⟩⟩⟩)] [] (Ls.of (.cons .k1 .nil)) Rs.nil 7 (.on 0 .pu (.on 1 .pu (.on 2 .pu (.on 4 .pu (.on 3 .go (.on 5 .pu (.on 6 .go .nl))))))) follows_mixed (.inb (.thn (.thn (.inb (.inb (.thn (.thn (.inb (.thn .body))))))))) (by kernel_rfl) ?_
  refine .dpu rfl (.n rfl) (P.mov .g2) rfl rfl ?_
  refine .dpu rfl (.n rfl) (P.mov .t1) rfl rfl ?_
  refine .dpu rfl (.n rfl) (P.mov .g7) rfl rfl ?_
  refine .dpu rfl (.n rfl) (P.iac (i := 1) .t2 rfl .g5 runUnderlying60 sizeOf54 rfl rfl) rfl rfl ?_
  refine .dgo rfl (.n rfl) (G.call call74 (.cons .t1 .nil) (S_wide_Of a0 _ rfl) .nil .nil (fun _ _ => rfl) (fun _ _ => rfl) rfl) (.inr fun _ _ _ h => (h.imp (Ls.of (.cons .k1 .nil))).ro Rs.nil) fun _ _ => ?_
  refine .dpu rfl (.n rfl) (P.iac (i := 0) .t2 rfl .t1 runUnderlying54 sizeOf27 rfl rfl) rfl rfl ?_
  refine .dgo rfl (.n rfl) (G.str .t1 .t0 .k0 (.mk (cs' := (purse_Book.cs ⟨⟨(wide_Of a0), (wide_Of a0)⟩, ⟨(wide_Of a0), ⟨0, 0, 0, 0⟩⟩, ⟨⟨0, 0, 0, 0⟩, ⟨0, 0, 0, 0⟩⟩, ⟨⟨0, 0, 0, 0⟩, ⟨0, 0, 0, 0⟩⟩, ⟨⟨0, 0, 0, 0⟩, ⟨0, 0, 0, 0⟩⟩, ⟨⟨0, 0, 0, 0⟩, ⟨0, 0, 0, 0⟩⟩, ⟨⟨0, 0, 0, 0⟩, ⟨0, 0, 0, 0⟩⟩, ⟨⟨0, 0, 0, 0⟩, ⟨0, 0, 0, 0⟩⟩⟩)) sizeOf27 rfl rfl rfl rfl)) (.inr fun _ _ _ h => (h.imp (Ls.of (.cons .k1 .nil))).ro Rs.nil) fun _ _ => ?_
  refine .dnil ?_
  refine .inn ?_
  refine .then ?_
  refine .reg rfl ?_
  refine .opp (P.bin (v := N 1) .g0 .k (.addc (by decide))) rfl ?_
  refine .drop .k1 ?_
  refine .opp (P.mov .t0) rfl ?_
  refine .nil ?_
  refine .then ?_
  refine .rd ?_
  refine .seq ?_
  refine .reg rfl ?_
  refine .opp (P.bin (v := Bo true) .g0 .k (BinV.lss.boolc (by decide))) rfl ?_
  refine .nil ?_
  refine .then ?_
  refine .seq ?_
  refine .condT .t0 ?_
  refine .skip ?_
  refine .then ?_
  refine .seq ?_
  refine .block ?_
  refine .seq ?_
  refine .reg rfl ?_
  refine .opp (P.mov .g0) rfl ?_
  refine .opp (P.asg .t0) rfl ?_
  refine .nil ?_
  refine .then ?_
  refine .drawl [blk b1 60 (purse_Book.cs ⟨⟨⟨0, 0, 0, 0⟩, ⟨0, 0, 0, 0⟩⟩, ⟨⟨0, 0, 0, 0⟩, ⟨0, 0, 0, 0⟩⟩, ⟨⟨0, 0, 0, 0⟩, ⟨0, 0, 0, 0⟩⟩, ⟨⟨0, 0, 0, 0⟩, ⟨0, 0, 0, 0⟩⟩, ⟨⟨0, 0, 0, 0⟩, ⟨0, 0, 0, 0⟩⟩, ⟨⟨0, 0, 0, 0⟩, ⟨0, 0, 0, 0⟩⟩, ⟨⟨0, 0, 0, 0⟩, ⟨0, 0, 0, 0⟩⟩, ⟨⟨0, 0, 0, 0⟩, ⟨0, 0, 0, 0⟩⟩⟩)] [] (Ls.of (.cons .k1 .nil)) Rs.nil 7 (.on 0 .pu (.on 1 .pu (.on 2 .pu (.on 4 .pu (.on 3 .go (.on 5 .pu (.on 6 .go .nl))))))) follows_mixed (.inb (.thn (.thn (.inb (.inb (.thn (.thn (.inb (.thn .body))))))))) (by kernel_rfl) ?_
  refine .dpu rfl (.n rfl) (P.mov .g2) rfl rfl ?_
  refine .dpu rfl (.n rfl) (P.mov .t1) rfl rfl ?_
  refine .dpu rfl (.n rfl) (P.mov .g7) rfl rfl ?_
  refine .dpu rfl (.n rfl) (P.iac (i := 1) .t2 rfl .g5 runUnderlying60 sizeOf54 rfl rfl) rfl rfl ?_
  refine .dgo rfl (.n rfl) (G.call call74 (.cons .t1 .nil) (S_wide_Of a0 _ rfl) .nil .nil (fun _ _ => rfl) (fun _ _ => rfl) rfl) (.inr fun _ _ _ h => (h.imp (Ls.of (.cons .k1 .nil))).ro Rs.nil) fun _ _ => ?_
  refine .dpu rfl (.n rfl) (P.iac (i := 1) .t2 rfl .t1 runUnderlying54 sizeOf27 rfl rfl) rfl rfl ?_
  refine .dgo rfl (.n rfl) (G.str .t1 .t0 .k0 (.mk (cs' := (purse_Book.cs ⟨⟨(wide_Of a0), (wide_Of a0)⟩, ⟨(wide_Of a0), (wide_Of a0)⟩, ⟨⟨0, 0, 0, 0⟩, ⟨0, 0, 0, 0⟩⟩, ⟨⟨0, 0, 0, 0⟩, ⟨0, 0, 0, 0⟩⟩, ⟨⟨0, 0, 0, 0⟩, ⟨0, 0, 0, 0⟩⟩, ⟨⟨0, 0, 0, 0⟩, ⟨0, 0, 0, 0⟩⟩, ⟨⟨0, 0, 0, 0⟩, ⟨0, 0, 0, 0⟩⟩, ⟨⟨0, 0, 0, 0⟩, ⟨0, 0, 0, 0⟩⟩⟩)) sizeOf27 rfl rfl rfl rfl)) (.inr fun _ _ _ h => (h.imp (Ls.of (.cons .k1 .nil))).ro Rs.nil) fun _ _ => ?_
  refine .dnil ?_
  refine .inn ?_
  refine .then ?_
  refine .reg rfl ?_
  refine .opp (P.bin (v := N 2) .g0 .k (.addc (by decide))) rfl ?_
  refine .drop .k1 ?_
  refine .opp (P.mov .t0) rfl ?_
  refine .nil ?_
  refine .then ?_
  refine .rd ?_
  refine .seq ?_
  refine .reg rfl ?_
  refine .opp (P.bin (v := Bo false) .g0 .k (BinV.lss.boolc (by decide))) rfl ?_
  refine .nil ?_
  refine .then ?_
  refine .seq ?_
  refine .condF .t0 ?_
  refine .exit ?_
  refine .thx ?_
  refine .thx ?_
  refine .inb ?_
  refine .inn ?_
  refine .then ?_
  refine .reg rfl ?_
  refine .opp (P.bin (v := N 2) .g2 .k (.addc (by decide))) rfl ?_
  refine .drop .k3 ?_
  refine .opp (P.mov .t0) rfl ?_
  refine .nil ?_
  refine .then ?_
  refine .rd ?_
  refine .seq ?_
  refine .reg rfl ?_
  refine .opp (P.bin (v := Bo true) .g0 .k (BinV.lss.boolc (by decide))) rfl ?_
  refine .nil ?_
  refine .then ?_
  refine .seq ?_
  refine .condT .t0 ?_
  refine .skip ?_
  refine .then ?_
  refine .seq ?_
  refine .block ?_
  refine .seq ?_
  refine .reg rfl ?_
  refine .opp (P.mov .g0) rfl ?_
  refine .drop .k3 ?_
  refine .opp (P.asg .t0) rfl ?_
  refine .nil ?_
  refine .then ?_
  refine .seq ?_
  refine .reg rfl ?_
  refine .drop .k2 ?_
  refine .opp (P.mov .k) rfl ?_
  refine .nil ?_
  refine .then ?_
  refine .block ?_
  refine .rounds 3 ?_
  refine .rd ?_
  refine .seq ?_
  refine .reg rfl ?_
  refine .opp (P.bin (v := Bo true) .g0 .k (BinV.lss.boolc (by decide))) rfl ?_
  refine .nil ?_
  refine .then ?_
  refine .seq ?_
  refine .condT .t0 ?_
  refine .skip ?_
  refine .then ?_
  refine .seq ?_
  refine .block ?_
  refine .seq ?_
  refine .reg rfl ?_
  refine .opp (P.mov .g0) rfl ?_
  refine .opp (P.asg .t0) rfl ?_
  refine .nil ?_
  refine .then ?_
  refine .drawl [blk b1 60 (purse_Book.cs ⟨⟨⟨0, 0, 0, 0⟩, ⟨0, 0, 0, 0⟩⟩, ⟨⟨0, 0, 0, 0⟩, ⟨0, 0, 0, 0⟩⟩, ⟨⟨0, 0, 0, 0⟩, ⟨0, 0, 0, 0⟩⟩, ⟨⟨0, 0, 0, 0⟩, ⟨0, 0, 0, 0⟩⟩, ⟨⟨0, 0, 0, 0⟩, ⟨0, 0, 0, 0⟩⟩, ⟨⟨0, 0, 0, 0⟩, ⟨0, 0, 0, 0⟩⟩, ⟨⟨0, 0, 0, 0⟩, ⟨0, 0, 0, 0⟩⟩, ⟨⟨0, 0, 0, 0⟩, ⟨0, 0, 0, 0⟩⟩⟩)] [] (Ls.of (.cons .k1 .nil)) Rs.nil 7 (.on 0 .pu (.on 1 .pu (.on 2 .pu (.on 4 .pu (.on 3 .go (.on 5 .pu (.on 6 .go .nl))))))) follows_mixed (.inb (.thn (.thn (.inb (.inb (.thn (.thn (.inb (.thn .body))))))))) (by kernel_rfl) ?_
  refine .dpu rfl (.n rfl) (P.mov .g2) rfl rfl ?_
  refine .dpu rfl (.n rfl) (P.mov .t1) rfl rfl ?_
  refine .dpu rfl (.n rfl) (P.mov .g7) rfl rfl ?_
  refine .dpu rfl (.n rfl) (P.iac (i := 2) .t2 rfl .g5 runUnderlying60 sizeOf54 rfl rfl) rfl rfl ?_
  refine .dgo rfl (.n rfl) (G.call call74 (.cons .t1 .nil) (S_wide_Of a0 _ rfl) .nil .nil (fun _ _ => rfl) (fun _ _ => rfl) rfl) (.inr fun _ _ _ h => (h.imp (Ls.of (.cons .k1 .nil))).ro Rs.nil) fun _ _ => ?_
  refine .dpu rfl (.n rfl) (P.iac (i := 0) .t2 rfl .t1 runUnderlying54 sizeOf27 rfl rfl) rfl rfl ?_
  refine .dgo rfl (.n rfl) (G.str .t1 .t0 .k0 (.mk (cs' := (purse_Book.cs ⟨⟨(wide_Of a0), (wide_Of a0)⟩, ⟨(wide_Of a0), (wide_Of a0)⟩, ⟨(wide_Of a0), ⟨0, 0, 0, 0⟩⟩, ⟨⟨0, 0, 0, 0⟩, ⟨0, 0, 0, 0⟩⟩, ⟨⟨0, 0, 0, 0⟩, ⟨0, 0, 0, 0⟩⟩, ⟨⟨0, 0, 0, 0⟩, ⟨0, 0, 0, 0⟩⟩, ⟨⟨0, 0, 0, 0⟩, ⟨0, 0, 0, 0⟩⟩, ⟨⟨0, 0, 0, 0⟩, ⟨0, 0, 0, 0⟩⟩⟩)) sizeOf27 rfl rfl rfl rfl)) (.inr fun _ _ _ h => (h.imp (Ls.of (.cons .k1 .nil))).ro Rs.nil) fun _ _ => ?_
  refine .dnil ?_
  refine .inn ?_
  refine .then ?_
  refine .reg rfl ?_
  refine .opp (P.bin (v := N 1) .g0 .k (.addc (by decide))) rfl ?_
  refine .drop .k1 ?_
  refine .opp (P.mov .t0) rfl ?_
  refine .nil ?_
  refine .then ?_
  refine .rd ?_
  refine .seq ?_
  refine .reg rfl ?_
  refine .opp (P.bin (v := Bo true) .g0 .k (BinV.lss.boolc (by decide))) rfl ?_
  refine .nil ?_
  refine .then ?_
  refine .seq ?_
  refine .condT .t0 ?_
  refine .skip ?_
  refine .then ?_
  refine .seq ?_
  refine .block ?_
  refine .seq ?_
  refine .reg rfl ?_
  refine .opp (P.mov .g0) rfl ?_
  refine .opp (P.asg .t0) rfl ?_
  refine .nil ?_
  refine .then ?_
  refine .drawl [blk b1 60 (purse_Book.cs ⟨⟨⟨0, 0, 0, 0⟩, ⟨0, 0, 0, 0⟩⟩, ⟨⟨0, 0, 0, 0⟩, ⟨0, 0, 0, 0⟩⟩, ⟨⟨0, 0, 0, 0⟩, ⟨0, 0, 0, 0⟩⟩, ⟨⟨0, 0, 0, 0⟩, ⟨0, 0, 0, 0⟩⟩, ⟨⟨0, 0, 0, 0⟩, ⟨0, 0, 0, 0⟩⟩, ⟨⟨0, 0, 0, 0⟩, ⟨0, 0, 0, 0⟩⟩, ⟨⟨0, 0, 0, 0⟩, ⟨0, 0, 0, 0⟩⟩, ⟨⟨0, 0, 0, 0⟩, ⟨0, 0, 0, 0⟩⟩⟩)] [] (Ls.of (.cons .k1 .nil)) Rs.nil 7 (.on 0 .pu (.on 1 .pu (.on 2 .pu (.on 4 .pu (.on 3 .go (.on 5 .pu (.on 6 .go .nl))))))) follows_mixed (.inb (.thn (.thn (.inb (.inb (.thn (.thn (.inb (.thn .body))))))))) (by kernel_rfl) ?_
  refine .dpu rfl (.n rfl) (P.mov .g2) rfl rfl ?_
  refine .dpu rfl (.n rfl) (P.mov .t1) rfl rfl ?_
  refine .dpu rfl (.n rfl) (P.mov .g7) rfl rfl ?_
  refine .dpu rfl (.n rfl) (P.iac (i := 2) .t2 rfl .g5 runUnderlying60 sizeOf54 rfl rfl) rfl rfl ?_
  refine .dgo rfl (.n rfl) (G.call call74 (.cons .t1 .nil) (S_wide_Of a0 _ rfl) .nil .nil (fun _ _ => rfl) (fun _ _ => rfl) rfl) (.inr fun _ _ _ h => (h.imp (Ls.of (.cons .k1 .nil))).ro Rs.nil) fun _ _ => ?_
  refine .dpu rfl (.n rfl) (P.iac (i := 1) .t2 rfl .t1 runUnderlying54 sizeOf27 rfl rfl) rfl rfl ?_
  refine .dgo rfl (.n rfl) (G.str .t1 .t0 .k0 (.mk (cs' := (purse_Book.cs ⟨⟨(wide_Of a0), (wide_Of a0)⟩, ⟨(wide_Of a0), (wide_Of a0)⟩, ⟨(wide_Of a0), (wide_Of a0)⟩, ⟨⟨0, 0, 0, 0⟩, ⟨0, 0, 0, 0⟩⟩, ⟨⟨0, 0, 0, 0⟩, ⟨0, 0, 0, 0⟩⟩, ⟨⟨0, 0, 0, 0⟩, ⟨0, 0, 0, 0⟩⟩, ⟨⟨0, 0, 0, 0⟩, ⟨0, 0, 0, 0⟩⟩, ⟨⟨0, 0, 0, 0⟩, ⟨0, 0, 0, 0⟩⟩⟩)) sizeOf27 rfl rfl rfl rfl)) (.inr fun _ _ _ h => (h.imp (Ls.of (.cons .k1 .nil))).ro Rs.nil) fun _ _ => ?_
  refine .dnil ?_
  refine .inn ?_
  refine .then ?_
  refine .reg rfl ?_
  refine .opp (P.bin (v := N 2) .g0 .k (.addc (by decide))) rfl ?_
  refine .drop .k1 ?_
  refine .opp (P.mov .t0) rfl ?_
  refine .nil ?_
  refine .then ?_
  refine .rd ?_
  refine .seq ?_
  refine .reg rfl ?_
  refine .opp (P.bin (v := Bo false) .g0 .k (BinV.lss.boolc (by decide))) rfl ?_
  refine .nil ?_
  refine .then ?_
  refine .seq ?_
  refine .condF .t0 ?_
  refine .exit ?_
  refine .thx ?_
  refine .thx ?_
  refine .inb ?_
  refine .inn ?_
  refine .then ?_
  refine .reg rfl ?_
  refine .opp (P.bin (v := N 3) .g2 .k (.addc (by decide))) rfl ?_
  refine .drop .k3 ?_
  refine .opp (P.mov .t0) rfl ?_
  refine .nil ?_
  refine .then ?_
  refine .rd ?_
  refine .seq ?_
  refine .reg rfl ?_
  refine .opp (P.bin (v := Bo true) .g0 .k (BinV.lss.boolc (by decide))) rfl ?_
  refine .nil ?_
  refine .then ?_
  refine .seq ?_
  refine .condT .t0 ?_
  refine .skip ?_
  refine .then ?_
  refine .seq ?_
  refine .block ?_
  refine .seq ?_
  refine .reg rfl ?_
  refine .opp (P.mov .g0) rfl ?_
  refine .drop .k3 ?_
  refine .opp (P.asg .t0) rfl ?_
  refine .nil ?_
  refine .then ?_
  refine .seq ?_
  refine .reg rfl ?_
  refine .drop .k2 ?_
  refine .opp (P.mov .k) rfl ?_
  refine .nil ?_
  refine .then ?_
  refine .block ?_
  refine .rounds 3 ?_
  refine .rd ?_
  refine .seq ?_
  refine .reg rfl ?_
  refine .opp (P.bin (v := Bo true) .g0 .k (BinV.lss.boolc (by decide))) rfl ?_
  refine .nil ?_
  refine .then ?_
  refine .seq ?_
  refine .condT .t0 ?_
  refine .skip ?_
  refine .then ?_
  refine .seq ?_
  refine .block ?_
  refine .seq ?_
  refine .reg rfl ?_
  refine .opp (P.mov .g0) rfl ?_
  refine .opp (P.asg .t0) rfl ?_
  refine .nil ?_
  refine .then ?_
  refine .drawl [blk b1 60 (purse_Book.cs ⟨⟨⟨0, 0, 0, 0⟩, ⟨0, 0, 0, 0⟩⟩, ⟨⟨0, 0, 0, 0⟩, ⟨0, 0, 0, 0⟩⟩, ⟨⟨0, 0, 0, 0⟩, ⟨0, 0, 0, 0⟩⟩, ⟨⟨0, 0, 0, 0⟩, ⟨0, 0, 0, 0⟩⟩, ⟨⟨0, 0, 0, 0⟩, ⟨0, 0, 0, 0⟩⟩, ⟨⟨0, 0, 0, 0⟩, ⟨0, 0, 0, 0⟩⟩, ⟨⟨0, 0, 0, 0⟩, ⟨0, 0, 0, 0⟩⟩, ⟨⟨0, 0, 0, 0⟩, ⟨0, 0, 0, 0⟩⟩⟩)] [] (Ls.of (.cons .k1 .nil)) Rs.nil 7 (.on 0 .pu (.on 1 .pu (.on 2 .pu (.on 4 .pu (.on 3 .go (.on 5 .pu (.on 6 .go .nl))))))) follows_mixed (.inb (.thn (.thn (.inb (.inb (.thn (.thn (.inb (.thn .body))))))))) (by kernel_rfl) ?_
  refine .dpu rfl (.n rfl) (P.mov .g2) rfl rfl ?_
  refine .dpu rfl (.n rfl) (P.mov .t1) rfl rfl ?_
  refine .dpu rfl (.n rfl) (P.mov .g7) rfl rfl ?_
  refine .dpu rfl (.n rfl) (P.iac (i := 3) .t2 rfl .g5 runUnderlying60 sizeOf54 rfl rfl) rfl rfl ?_
  refine .dgo rfl (.n rfl) (G.call call74 (.cons .t1 .nil) (S_wide_Of a0 _ rfl) .nil .nil (fun _ _ => rfl) (fun _ _ => rfl) rfl) (.inr fun _ _ _ h => (h.imp (Ls.of (.cons .k1 .nil))).ro Rs.nil) fun _ _ => ?_
  refine .dpu rfl (.n rfl) (P.iac (i := 0) .t2 rfl .t1 runUnderlying54 sizeOf27 rfl rfl) rfl rfl ?_
  refine .dgo rfl (.n rfl) (G.str .t1 .t0 .k0 (.mk (cs' := (purse_Book.cs ⟨⟨(wide_Of a0), (wide_Of a0)⟩, ⟨(wide_Of a0), (wide_Of a0)⟩, ⟨(wide_Of a0), (wide_Of a0)⟩, ⟨(wide_Of a0), ⟨0, 0, 0, 0⟩⟩, ⟨⟨0, 0, 0, 0⟩, ⟨0, 0, 0, 0⟩⟩, ⟨⟨0, 0, 0, 0⟩, ⟨0, 0, 0, 0⟩⟩, ⟨⟨0, 0, 0, 0⟩, ⟨0, 0, 0, 0⟩⟩, ⟨⟨0, 0, 0, 0⟩, ⟨0, 0, 0, 0⟩⟩⟩)) sizeOf27 rfl rfl rfl rfl)) (.inr fun _ _ _ h => (h.imp (Ls.of (.cons .k1 .nil))).ro Rs.nil) fun _ _ => ?_
  refine .dnil ?_
  refine .inn ?_
  refine .then ?_
  refine .reg rfl ?_
  refine .opp (P.bin (v := N 1) .g0 .k (.addc (by decide))) rfl ?_
  refine .drop .k1 ?_
  refine .opp (P.mov .t0) rfl ?_
  refine .nil ?_
  refine .then ?_
  refine .rd ?_
  refine .seq ?_
  refine .reg rfl ?_
  refine .opp (P.bin (v := Bo true) .g0 .k (BinV.lss.boolc (by decide))) rfl ?_
  refine .nil ?_
  refine .then ?_
  refine .seq ?_
  refine .condT .t0 ?_
  refine .skip ?_
  refine .then ?_
  refine .seq ?_
  refine .block ?_
  refine .seq ?_
  refine .reg rfl ?_
  refine .opp (P.mov .g0) rfl ?_
  refine .opp (P.asg .t0) rfl ?_
  refine .nil ?_
  refine .then ?_
  refine .drawl [blk b1 60 (purse_Book.cs ⟨⟨⟨0, 0, 0, 0⟩, ⟨0, 0, 0, 0⟩⟩, ⟨⟨0, 0, 0, 0⟩, ⟨0, 0, 0, 0⟩⟩, ⟨⟨0, 0, 0, 0⟩, ⟨0, 0, 0, 0⟩⟩, ⟨⟨0, 0, 0, 0⟩, ⟨0, 0, 0, 0⟩⟩, ⟨⟨0, 0, 0, 0⟩, ⟨0, 0, 0, 0⟩⟩, ⟨⟨0, 0, 0, 0⟩, ⟨0, 0, 0, 0⟩⟩, ⟨⟨0, 0, 0, 0⟩, ⟨0, 0, 0, 0⟩⟩, ⟨⟨0, 0, 0, 0⟩, ⟨0, 0, 0, 0⟩⟩⟩)] [] (Ls.of (.cons .k1 .nil)) Rs.nil 7 (.on 0 .pu (.on 1 .pu (.on 2 .pu (.on 4 .pu (.on 3 .go (.on 5 .pu (.on 6 .go .nl))))))) follows_mixed (.inb (.thn (.thn (.inb (.inb (.thn (.thn (.inb (.thn .body))))))))) (by kernel_rfl) ?_
  refine .dpu rfl (.n rfl) (P.mov .g2) rfl rfl ?_
  refine .dpu rfl (.n rfl) (P.mov .t1) rfl rfl ?_
  refine .dpu rfl (.n rfl) (P.mov .g7) rfl rfl ?_
  refine .dpu rfl (.n rfl) (P.iac (i := 3) .t2 rfl .g5 runUnderlying60 sizeOf54 rfl rfl) rfl rfl ?_
  refine .dgo rfl (.n rfl) (G.call call74 (.cons .t1 .nil) (S_wide_Of a0 _ rfl) .nil .nil (fun _ _ => rfl) (fun _ _ => rfl) rfl) (.inr fun _ _ _ h => (h.imp (Ls.of (.cons .k1 .nil))).ro Rs.nil) fun _ _ => ?_
  refine .dpu rfl (.n rfl) (P.iac (i := 1) .t2 rfl .t1 runUnderlying54 sizeOf27 rfl rfl) rfl rfl ?_
  refine .dgo rfl (.n rfl) (G.str .t1 .t0 .k0 (.mk (cs' := (purse_Book.cs ⟨⟨(wide_Of a0), (wide_Of a0)⟩, ⟨(wide_Of a0), (wide_Of a0)⟩, ⟨(wide_Of a0), (wide_Of a0)⟩, ⟨(wide_Of a0), (wide_Of a0)⟩, ⟨⟨0, 0, 0, 0⟩, ⟨0, 0, 0, 0⟩⟩, ⟨⟨0, 0, 0, 0⟩, ⟨0, 0, 0, 0⟩⟩, ⟨⟨0, 0, 0, 0⟩, ⟨0, 0, 0, 0⟩⟩, ⟨⟨0, 0, 0, 0⟩, ⟨0, 0, 0, 0⟩⟩⟩)) sizeOf27 rfl rfl rfl rfl)) (.inr fun _ _ _ h => (h.imp (Ls.of (.cons .k1 .nil))).ro Rs.nil) fun _ _ => ?_
  refine .dnil ?_
  refine .inn ?_
  refine .then ?_
  refine .reg rfl ?_
  refine .opp (P.bin (v := N 2) .g0 .k (.addc (by decide))) rfl ?_
  refine .drop .k1 ?_
  refine .opp (P.mov .t0) rfl ?_
  refine .nil ?_
  refine .then ?_
  refine .rd ?_
  refine .seq ?_
  refine .reg rfl ?_
  refine .opp (P.bin (v := Bo false) .g0 .k (BinV.lss.boolc (by decide))) rfl ?_
  refine .nil ?_
  refine .then ?_
  refine .seq ?_
  refine .condF .t0 ?_
  refine .exit ?_
  refine .thx ?_
  refine .thx ?_
  refine .inb ?_
  refine .inn ?_
  refine .then ?_
  refine .reg rfl ?_
  refine .opp (P.bin (v := N 4) .g2 .k (.addc (by decide))) rfl ?_
  refine .drop .k3 ?_
  refine .opp (P.mov .t0) rfl ?_
  refine .nil ?_
  refine .then ?_
  refine .rd ?_
  refine .seq ?_
  refine .reg rfl ?_
  refine .opp (P.bin (v := Bo true) .g0 .k (BinV.lss.boolc (by decide))) rfl ?_
  refine .nil ?_
  refine .then ?_
  refine .seq ?_
  refine .condT .t0 ?_
  refine .skip ?_
  refine .then ?_
  refine .seq ?_
  refine .block ?_
  refine .seq ?_
  refine .reg rfl ?_
  refine .opp (P.mov .g0) rfl ?_
  refine .drop .k3 ?_
  refine .opp (P.asg .t0) rfl ?_
  refine .nil ?_
  refine .then ?_
  refine .seq ?_
  refine .reg rfl ?_
  refine .drop .k2 ?_
  refine .opp (P.mov .k) rfl ?_
  refine .nil ?_
  refine .then ?_
  refine .block ?_
  refine .rounds 3 ?_
  refine .rd ?_
  refine .seq ?_
  refine .reg rfl ?_
  refine .opp (P.bin (v := Bo true) .g0 .k (BinV.lss.boolc (by decide))) rfl ?_
  refine .nil ?_
  refine .then ?_
  refine .seq ?_
  refine .condT .t0 ?_
  refine .skip ?_
  refine .then ?_
  refine .seq ?_
  refine .block ?_
  refine .seq ?_
  refine .reg rfl ?_
  refine .opp (P.mov .g0) rfl ?_
  refine .opp (P.asg .t0) rfl ?_
  refine .nil ?_
  refine .then ?_
  refine .drawl [blk b1 60 (purse_Book.cs ⟨⟨⟨0, 0, 0, 0⟩, ⟨0, 0, 0, 0⟩⟩, ⟨⟨0, 0, 0, 0⟩, ⟨0, 0, 0, 0⟩⟩, ⟨⟨0, 0, 0, 0⟩, ⟨0, 0, 0, 0⟩⟩, ⟨⟨0, 0, 0, 0⟩, ⟨0, 0, 0, 0⟩⟩, ⟨⟨0, 0, 0, 0⟩, ⟨0, 0, 0, 0⟩⟩, ⟨⟨0, 0, 0, 0⟩, ⟨0, 0, 0, 0⟩⟩, ⟨⟨0, 0, 0, 0⟩, ⟨0, 0, 0, 0⟩⟩, ⟨⟨0, 0, 0, 0⟩, ⟨0, 0, 0, 0⟩⟩⟩)] [] (Ls.of (.cons .k1 .nil)) Rs.nil 7 (.on 0 .pu (.on 1 .pu (.on 2 .pu (.on 4 .pu (.on 3 .go (.on 5 .pu (.on 6 .go .nl))))))) follows_mixed (.inb (.thn (.thn (.inb (.inb (.thn (.thn (.inb (.thn .body))))))))) (by kernel_rfl) ?_
  refine .dpu rfl (.n rfl) (P.mov .g2) rfl rfl ?_
  refine .dpu rfl (.n rfl) (P.mov .t1) rfl rfl ?_
  refine .dpu rfl (.n rfl) (P.mov .g7) rfl rfl ?_
  refine .dpu rfl (.n rfl) (P.iac (i := 4) .t2 rfl .g5 runUnderlying60 sizeOf54 rfl rfl) rfl rfl ?_
  refine .dgo rfl (.n rfl) (G.call call74 (.cons .t1 .nil) (S_wide_Of a0 _ rfl) .nil .nil (fun _ _ => rfl) (fun _ _ => rfl) rfl) (.inr fun _ _ _ h => (h.imp (Ls.of (.cons .k1 .nil))).ro Rs.nil) fun _ _ => ?_
  refine .dpu rfl (.n rfl) (P.iac (i := 0) .t2 rfl .t1 runUnderlying54 sizeOf27 rfl rfl) rfl rfl ?_
  refine .dgo rfl (.n rfl) (G.str .t1 .t0 .k0 (.mk (cs' := (purse_Book.cs ⟨⟨(wide_Of a0), (wide_Of a0)⟩, ⟨(wide_Of a0), (wide_Of a0)⟩, ⟨(wide_Of a0), (wide_Of a0)⟩, ⟨(wide_Of a0), (wide_Of a0)⟩, ⟨(wide_Of a0), ⟨0, 0, 0, 0⟩⟩, ⟨⟨0, 0, 0, 0⟩, ⟨0, 0, 0, 0⟩⟩, ⟨⟨0, 0, 0, 0⟩, ⟨0, 0, 0, 0⟩⟩, ⟨⟨0, 0, 0, 0⟩, ⟨0, 0, 0, 0⟩⟩⟩)) sizeOf27 rfl rfl rfl rfl)) (.inr fun _ _ _ h => (h.imp (Ls.of (.cons .k1 .nil))).ro Rs.nil) fun _ _ => ?_
  refine .dnil ?_
  refine .inn ?_
  refine .then ?_
  refine .reg rfl ?_
  refine .opp (P.bin (v := N 1) .g0 .k (.addc (by decide))) rfl ?_
  refine .drop .k1 ?_
  refine .opp (P.mov .t0) rfl ?_
  refine .nil ?_
  refine .then ?_
  refine .rd ?_
  refine .seq ?_
  refine .reg rfl ?_
  refine .opp (P.bin (v := Bo true) .g0 .k (BinV.lss.boolc (by decide))) rfl ?_
  refine .nil ?_
  refine .then ?_
  refine .seq ?_
  refine .condT .t0 ?_
  refine .skip ?_
  refine .then ?_
  refine .seq ?_
  refine .block ?_
  refine .seq ?_
  refine .reg rfl ?_
  refine .opp (P.mov .g0) rfl ?_
  refine .opp (P.asg .t0) rfl ?_
  refine .nil ?_
  refine .then ?_
  refine .drawl [blk b1 60 (purse_Book.cs ⟨⟨⟨0, 0, 0, 0⟩, ⟨0, 0, 0, 0⟩⟩, ⟨⟨0, 0, 0, 0⟩, ⟨0, 0, 0, 0⟩⟩, ⟨⟨0, 0, 0, 0⟩, ⟨0, 0, 0, 0⟩⟩, ⟨⟨0, 0, 0, 0⟩, ⟨0, 0, 0, 0⟩⟩, ⟨⟨0, 0, 0, 0⟩, ⟨0, 0, 0, 0⟩⟩, ⟨⟨0, 0, 0, 0⟩, ⟨0, 0, 0, 0⟩⟩, ⟨⟨0, 0, 0, 0⟩, ⟨0, 0, 0, 0⟩⟩, ⟨⟨0, 0, 0, 0⟩, ⟨0, 0, 0, 0⟩⟩⟩)] [] (Ls.of (.cons .k1 .nil)) Rs.nil 7 (.on 0 .pu (.on 1 .pu (.on 2 .pu (.on 4 .pu (.on 3 .go (.on 5 .pu (.on 6 .go .nl))))))) follows_mixed (.inb (.thn (.thn (.inb (.inb (.thn (.thn (.inb (.thn .body))))))))) (by kernel_rfl) ?_
  refine .dpu rfl (.n rfl) (P.mov .g2) rfl rfl ?_
  refine .dpu rfl (.n rfl) (P.mov .t1) rfl rfl ?_
  refine .dpu rfl (.n rfl) (P.mov .g7) rfl rfl ?_
  refine .dpu rfl (.n rfl) (P.iac (i := 4) .t2 rfl .g5 runUnderlying60 sizeOf54 rfl rfl) rfl rfl ?_
  refine .dgo rfl (.n rfl) (G.call call74 (.cons .t1 .nil) (S_wide_Of a0 _ rfl) .nil .nil (fun _ _ => rfl) (fun _ _ => rfl) rfl) (.inr fun _ _ _ h => (h.imp (Ls.of (.cons .k1 .nil))).ro Rs.nil) fun _ _ => ?_
  refine .dpu rfl (.n rfl) (P.iac (i := 1) .t2 rfl .t1 runUnderlying54 sizeOf27 rfl rfl) rfl rfl ?_
  refine .dgo rfl (.n rfl) (G.str .t1 .t0 .k0 (.mk (cs' := (purse_Book.cs ⟨⟨(wide_Of a0), (wide_Of a0)⟩, ⟨(wide_Of a0), (wide_Of a0)⟩, ⟨(wide_Of a0), (wide_Of a0)⟩, ⟨(wide_Of a0), (wide_Of a0)⟩, ⟨(wide_Of a0), (wide_Of a0)⟩, ⟨⟨0, 0, 0, 0⟩, ⟨0, 0, 0, 0⟩⟩, ⟨⟨0, 0, 0, 0⟩, ⟨0, 0, 0, 0⟩⟩, ⟨⟨0, 0, 0, 0⟩, ⟨0, 0, 0, 0⟩⟩⟩)) sizeOf27 rfl rfl rfl rfl)) (.inr fun _ _ _ h => (h.imp (Ls.of (.cons .k1 .nil))).ro Rs.nil) fun _ _ => ?_
  refine .dnil ?_
  refine .inn ?_
  refine .then ?_
  refine .reg rfl ?_
  refine .opp (P.bin (v := N 2) .g0 .k (.addc (by decide))) rfl ?_
  refine .drop .k1 ?_
  refine .opp (P.mov .t0) rfl ?_
  refine .nil ?_
  refine .then ?_
  refine .rd ?_
  refine .seq ?_
  refine .reg rfl ?_
  refine .opp (P.bin (v := Bo false) .g0 .k (BinV.lss.boolc (by decide))) rfl ?_
  refine .nil ?_
  refine .then ?_
  refine .seq ?_
  refine .condF .t0 ?_
  refine .exit ?_
  refine .thx ?_
  refine .thx ?_
  refine .inb ?_
  refine .inn ?_
  refine .then ?_
  refine .reg rfl ?_
  refine .opp (P.bin (v := N 5) .g2 .k (.addc (by decide))) rfl ?_
  refine .drop .k3 ?_
  refine .opp (P.mov .t0) rfl ?_
  refine .nil ?_
  refine .then ?_
  refine .rd ?_
  refine .seq ?_
  refine .reg rfl ?_
  refine .opp (P.bin (v := Bo true) .g0 .k (BinV.lss.boolc (by decide))) rfl ?_
  refine .nil ?_
  refine .then ?_
  refine .seq ?_
  refine .condT .t0 ?_
  refine .skip ?_
  refine .then ?_
  refine .seq ?_
  refine .block ?_
  refine .seq ?_
  refine .reg rfl ?_
  refine .opp (P.mov .g0) rfl ?_
  refine .drop .k3 ?_
  refine .opp (P.asg .t0) rfl ?_
  refine .nil ?_
  refine .then ?_
  refine .seq ?_
  refine .reg rfl ?_
  refine .drop .k2 ?_
  refine .opp (P.mov .k) rfl ?_
  refine .nil ?_
  refine .then ?_
  refine .block ?_
  refine .rounds 3 ?_
  refine .rd ?_
  refine .seq ?_
  refine .reg rfl ?_
  refine .opp (P.bin (v := Bo true) .g0 .k (BinV.lss.boolc (by decide))) rfl ?_
  refine .nil ?_
  refine .then ?_
  refine .seq ?_
  refine .condT .t0 ?_
  refine .skip ?_
  refine .then ?_
  refine .seq ?_
  refine .block ?_
  refine .seq ?_
  refine .reg rfl ?_
  refine .opp (P.mov .g0) rfl ?_
  refine .opp (P.asg .t0) rfl ?_
  refine .nil ?_
  refine .then ?_
  refine .drawl [blk b1 60 (purse_Book.cs ⟨⟨⟨0, 0, 0, 0⟩, ⟨0, 0, 0, 0⟩⟩, ⟨⟨0, 0, 0, 0⟩, ⟨0, 0, 0, 0⟩⟩, ⟨⟨0, 0, 0, 0⟩, ⟨0, 0, 0, 0⟩⟩, ⟨⟨0, 0, 0, 0⟩, ⟨0, 0, 0, 0⟩⟩, ⟨⟨0, 0, 0, 0⟩, ⟨0, 0, 0, 0⟩⟩, ⟨⟨0, 0, 0, 0⟩, ⟨0, 0, 0, 0⟩⟩, ⟨⟨0, 0, 0, 0⟩, ⟨0, 0, 0, 0⟩⟩, ⟨⟨0, 0, 0, 0⟩, ⟨0, 0, 0, 0⟩⟩⟩)] [] (Ls.of (.cons .k1 .nil)) Rs.nil 7 (.on 0 .pu (.on 1 .pu (.on 2 .pu (.on 4 .pu (.on 3 .go (.on 5 .pu (.on 6 .go .nl))))))) follows_mixed (.inb (.thn (.thn (.inb (.inb (.thn (.thn (.inb (.thn .body))))))))) (by kernel_rfl) ?_
  refine .dpu rfl (.n rfl) (P.mov .g2) rfl rfl ?_
  refine .dpu rfl (.n rfl) (P.mov .t1) rfl rfl ?_
  refine .dpu rfl (.n rfl) (P.mov .g7) rfl rfl ?_
  refine .dpu rfl (.n rfl) (P.iac (i := 5) .t2 rfl .g5 runUnderlying60 sizeOf54 rfl rfl) rfl rfl ?_
  refine .dgo rfl (.n rfl) (G.call call74 (.cons .t1 .nil) (S_wide_Of a0 _ rfl) .nil .nil (fun _ _ => rfl) (fun _ _ => rfl) rfl) (.inr fun _ _ _ h => (h.imp (Ls.of (.cons .k1 .nil))).ro Rs.nil) fun _ _ => ?_
  refine .dpu rfl (.n rfl) (P.iac (i := 0) .t2 rfl .t1 runUnderlying54 sizeOf27 rfl rfl) rfl rfl ?_
  refine .dgo rfl (.n rfl) (G.str .t1 .t0 .k0 (.mk (cs' := (purse_Book.cs ⟨⟨(wide_Of a0), (wide_Of a0)⟩, ⟨(wide_Of a0), (wide_Of a0)⟩, ⟨(wide_Of a0), (wide_Of a0)⟩, ⟨(wide_Of a0), (wide_Of a0)⟩, ⟨(wide_Of a0), (wide_Of a0)⟩, ⟨(wide_Of a0), ⟨0, 0, 0, 0⟩⟩, ⟨⟨0, 0, 0, 0⟩, ⟨0, 0, 0, 0⟩⟩, ⟨⟨0, 0, 0, 0⟩, ⟨0, 0, 0, 0⟩⟩⟩)) sizeOf27 rfl rfl rfl rfl)) (.inr fun _ _ _ h => (h.imp (Ls.of (.cons .k1 .nil))).ro Rs.nil) fun _ _ => ?_
  refine .dnil ?_
  refine .inn ?_
  refine .then ?_
  refine .reg rfl ?_
  refine .opp (P.bin (v := N 1) .g0 .k (.addc (by decide))) rfl ?_
  refine .drop .k1 ?_
  refine .opp (P.mov .t0) rfl ?_
  refine .nil ?_
  refine .then ?_
  refine .rd ?_
  refine .seq ?_
  refine .reg rfl ?_
  refine .opp (P.bin (v := Bo true) .g0 .k (BinV.lss.boolc (by decide))) rfl ?_
  refine .nil ?_
  refine .then ?_
  refine .seq ?_
  refine .condT .t0 ?_
  refine .skip ?_
  refine .then ?_
  refine .seq ?_
  refine .block ?_
  refine .seq ?_
  refine .reg rfl ?_
  refine .opp (P.mov .g0) rfl ?_
  refine .opp (P.asg .t0) rfl ?_
  refine .nil ?_
  refine .then ?_
  refine .drawl [blk b1 60 (purse_Book.cs ⟨⟨⟨0, 0, 0, 0⟩, ⟨0, 0, 0, 0⟩⟩, ⟨⟨0, 0, 0, 0⟩, ⟨0, 0, 0, 0⟩⟩, ⟨⟨0, 0, 0, 0⟩, ⟨0, 0, 0, 0⟩⟩, ⟨⟨0, 0, 0, 0⟩, ⟨0, 0, 0, 0⟩⟩, ⟨⟨0, 0, 0, 0⟩, ⟨0, 0, 0, 0⟩⟩, ⟨⟨0, 0, 0, 0⟩, ⟨0, 0, 0, 0⟩⟩, ⟨⟨0, 0, 0, 0⟩, ⟨0, 0, 0, 0⟩⟩, ⟨⟨0, 0, 0, 0⟩, ⟨0, 0, 0, 0⟩⟩⟩)] [] (Ls.of (.cons .k1 .nil)) Rs.nil 7 (.on 0 .pu (.on 1 .pu (.on 2 .pu (.on 4 .pu (.on 3 .go (.on 5 .pu (.on 6 .go .nl))))))) follows_mixed (.inb (.thn (.thn (.inb (.inb (.thn (.thn (.inb (.thn .body))))))))) (by kernel_rfl) ?_
  refine .dpu rfl (.n rfl) (P.mov .g2) rfl rfl ?_
  refine .dpu rfl (.n rfl) (P.mov .t1) rfl rfl ?_
  refine .dpu rfl (.n rfl) (P.mov .g7) rfl rfl ?_
  refine .dpu rfl (.n rfl) (P.iac (i := 5) .t2 rfl .g5 runUnderlying60 sizeOf54 rfl rfl) rfl rfl ?_
  refine .dgo rfl (.n rfl) (G.call call74 (.cons .t1 .nil) (S_wide_Of a0 _ rfl) .nil .nil (fun _ _ => rfl) (fun _ _ => rfl) rfl) (.inr fun _ _ _ h => (h.imp (Ls.of (.cons .k1 .nil))).ro Rs.nil) fun _ _ => ?_
  refine .dpu rfl (.n rfl) (P.iac (i := 1) .t2 rfl .t1 runUnderlying54 sizeOf27 rfl rfl) rfl rfl ?_
  refine .dgo rfl (.n rfl) (G.str .t1 .t0 .k0 (.mk (cs' := (purse_Book.cs ⟨⟨(wide_Of a0), (wide_Of a0)⟩, ⟨(wide_Of a0), (wide_Of a0)⟩, ⟨(wide_Of a0), (wide_Of a0)⟩, ⟨(wide_Of a0), (wide_Of a0)⟩, ⟨(wide_Of a0), (wide_Of a0)⟩, ⟨(wide_Of a0), (wide_Of a0)⟩, ⟨⟨0, 0, 0, 0⟩, ⟨0, 0, 0, 0⟩⟩, ⟨⟨0, 0, 0, 0⟩, ⟨0, 0, 0, 0⟩⟩⟩)) sizeOf27 rfl rfl rfl rfl)) (.inr fun _ _ _ h => (h.imp (Ls.of (.cons .k1 .nil))).ro Rs.nil) fun _ _ => ?_
  refine .dnil ?_
  refine .inn ?_
  refine .then ?_
  refine .reg rfl ?_
  refine .opp (P.bin (v := N 2) .g0 .k (.addc (by decide))) rfl ?_
  refine .drop .k1 ?_
  refine .opp (P.mov .t0) rfl ?_
  refine .nil ?_
  refine .then ?_
  refine .rd ?_
  refine .seq ?_
  refine .reg rfl ?_
  refine .opp (P.bin (v := Bo false) .g0 .k (BinV.lss.boolc (by decide))) rfl ?_
  refine .nil ?_
  refine .then ?_
  refine .seq ?_
  refine .condF .t0 ?_
  refine .exit ?_
  refine .thx ?_
  refine .thx ?_
  refine .inb ?_
  refine .inn ?_
  refine .then ?_
  refine .reg rfl ?_
  refine .opp (P.bin (v := N 6) .g2 .k (.addc (by decide))) rfl ?_
  refine .drop .k3 ?_
  refine .opp (P.mov .t0) rfl ?_
  refine .nil ?_
  refine .then ?_
  refine .rd ?_
  refine .seq ?_
  refine .reg rfl ?_
  refine .opp (P.bin (v := Bo true) .g0 .k (BinV.lss.boolc (by decide))) rfl ?_
  refine .nil ?_
  refine .then ?_
  refine .seq ?_
  refine .condT .t0 ?_
  refine .skip ?_
  refine .then ?_
  refine .seq ?_
  refine .block ?_
  refine .seq ?_
  refine .reg rfl ?_
  refine .opp (P.mov .g0) rfl ?_
  refine .drop .k3 ?_
  refine .opp (P.asg .t0) rfl ?_
  refine .nil ?_
  refine .then ?_
  refine .seq ?_
  refine .reg rfl ?_
  refine .drop .k2 ?_
  refine .opp (P.mov .k) rfl ?_
  refine .nil ?_
  refine .then ?_
  refine .block ?_
  refine .rounds 3 ?_
  refine .rd ?_
  refine .seq ?_
  refine .reg rfl ?_
  refine .opp (P.bin (v := Bo true) .g0 .k (BinV.lss.boolc (by decide))) rfl ?_
  refine .nil ?_
  refine .then ?_
  refine .seq ?_
  refine .condT .t0 ?_
  refine .skip ?_
  refine .then ?_
  refine .seq ?_
  refine .block ?_
  refine .seq ?_
  refine .reg rfl ?_
  refine .opp (P.mov .g0) rfl ?_
  refine .opp (P.asg .t0) rfl ?_
  refine .nil ?_
  refine .then ?_
  refine .drawl [blk b1 60 (purse_Book.cs ⟨⟨⟨0, 0, 0, 0⟩, ⟨0, 0, 0, 0⟩⟩, ⟨⟨0, 0, 0, 0⟩, ⟨0, 0, 0, 0⟩⟩, ⟨⟨0, 0, 0, 0⟩, ⟨0, 0, 0, 0⟩⟩, ⟨⟨0, 0, 0, 0⟩, ⟨0, 0, 0, 0⟩⟩, ⟨⟨0, 0, 0, 0⟩, ⟨0, 0, 0, 0⟩⟩, ⟨⟨0, 0, 0, 0⟩, ⟨0, 0, 0, 0⟩⟩, ⟨⟨0, 0, 0, 0⟩, ⟨0, 0, 0, 0⟩⟩, ⟨⟨0, 0, 0, 0⟩, ⟨0, 0, 0, 0⟩⟩⟩)] [] (Ls.of (.cons .k1 .nil)) Rs.nil 7 (.on 0 .pu (.on 1 .pu (.on 2 .pu (.on 4 .pu (.on 3 .go (.on 5 .pu (.on 6 .go .nl))))))) follows_mixed (.inb (.thn (.thn (.inb (.inb (.thn (.thn (.inb (.thn .body))))))))) (by kernel_rfl) ?_
  refine .dpu rfl (.n rfl) (P.mov .g2) rfl rfl ?_
  refine .dpu rfl (.n rfl) (P.mov .t1) rfl rfl ?_
  refine .dpu rfl (.n rfl) (P.mov .g7) rfl rfl ?_
  refine .dpu rfl (.n rfl) (P.iac (i := 6) .t2 rfl .g5 runUnderlying60 sizeOf54 rfl rfl) rfl rfl ?_
  refine .dgo rfl (.n rfl) (G.call call74 (.cons .t1 .nil) (S_wide_Of a0 _ rfl) .nil .nil (fun _ _ => rfl) (fun _ _ => rfl) rfl) (.inr fun _ _ _ h => (h.imp (Ls.of (.cons .k1 .nil))).ro Rs.nil) fun _ _ => ?_
  refine .dpu rfl (.n rfl) (P.iac (i := 0) .t2 rfl .t1 runUnderlying54 sizeOf27 rfl rfl) rfl rfl ?_
  refine .dgo rfl (.n rfl) (G.str .t1 .t0 .k0 (.mk (cs' := (purse_Book.cs ⟨⟨(wide_Of a0), (wide_Of a0)⟩, ⟨(wide_Of a0), (wide_Of a0)⟩, ⟨(wide_Of a0), (wide_Of a0)⟩, ⟨(wide_Of a0), (wide_Of a0)⟩, ⟨(wide_Of a0), (wide_Of a0)⟩, ⟨(wide_Of a0), (wide_Of a0)⟩, ⟨(wide_Of a0), ⟨0, 0, 0, 0⟩⟩, ⟨⟨0, 0, 0, 0⟩, ⟨0, 0, 0, 0⟩⟩⟩)) sizeOf27 rfl rfl rfl rfl)) (.inr fun _ _ _ h => (h.imp (Ls.of (.cons .k1 .nil))).ro Rs.nil) fun _ _ => ?_
  refine .dnil ?_
  refine .inn ?_
  refine .then ?_
  refine .reg rfl ?_
  refine .opp (P.bin (v := N 1) .g0 .k (.addc (by decide))) rfl ?_
  refine .drop .k1 ?_
  refine .opp (P.mov .t0) rfl ?_
  refine .nil ?_
  refine .then ?_
  refine .rd ?_
  refine .seq ?_
  refine .reg rfl ?_
  refine .opp (P.bin (v := Bo true) .g0 .k (BinV.lss.boolc (by decide))) rfl ?_
  refine .nil ?_
  refine .then ?_
  refine .seq ?_
  refine .condT .t0 ?_
  refine .skip ?_
  refine .then ?_
  refine .seq ?_
  refine .block ?_
  refine .seq ?_
  refine .reg rfl ?_
  refine .opp (P.mov .g0) rfl ?_
  refine .opp (P.asg .t0) rfl ?_
  refine .nil ?_
  refine .then ?_
  refine .drawl [blk b1 60 (purse_Book.cs ⟨⟨⟨0, 0, 0, 0⟩, ⟨0, 0, 0, 0⟩⟩, ⟨⟨0, 0, 0, 0⟩, ⟨0, 0, 0, 0⟩⟩, ⟨⟨0, 0, 0, 0⟩, ⟨0, 0, 0, 0⟩⟩, ⟨⟨0, 0, 0, 0⟩, ⟨0, 0, 0, 0⟩⟩, ⟨⟨0, 0, 0, 0⟩, ⟨0, 0, 0, 0⟩⟩, ⟨⟨0, 0, 0, 0⟩, ⟨0, 0, 0, 0⟩⟩, ⟨⟨0, 0, 0, 0⟩, ⟨0, 0, 0, 0⟩⟩, ⟨⟨0, 0, 0, 0⟩, ⟨0, 0, 0, 0⟩⟩⟩)] [] (Ls.of (.cons .k1 .nil)) Rs.nil 7 (.on 0 .pu (.on 1 .pu (.on 2 .pu (.on 4 .pu (.on 3 .go (.on 5 .pu (.on 6 .go .nl))))))) follows_mixed (.inb (.thn (.thn (.inb (.inb (.thn (.thn (.inb (.thn .body))))))))) (by kernel_rfl) ?_
  refine .dpu rfl (.n rfl) (P.mov .g2) rfl rfl ?_
  refine .dpu rfl (.n rfl) (P.mov .t1) rfl rfl ?_
  refine .dpu rfl (.n rfl) (P.mov .g7) rfl rfl ?_
  refine .dpu rfl (.n rfl) (P.iac (i := 6) .t2 rfl .g5 runUnderlying60 sizeOf54 rfl rfl) rfl rfl ?_
  refine .dgo rfl (.n rfl) (G.call call74 (.cons .t1 .nil) (S_wide_Of a0 _ rfl) .nil .nil (fun _ _ => rfl) (fun _ _ => rfl) rfl) (.inr fun _ _ _ h => (h.imp (Ls.of (.cons .k1 .nil))).ro Rs.nil) fun _ _ => ?_
  refine .dpu rfl (.n rfl) (P.iac (i := 1) .t2 rfl .t1 runUnderlying54 sizeOf27 rfl rfl) rfl rfl ?_
  refine .dgo rfl (.n rfl) (G.str .t1 .t0 .k0 (.mk (cs' := (purse_Book.cs ⟨⟨(wide_Of a0), (wide_Of a0)⟩, ⟨(wide_Of a0), (wide_Of a0)⟩, ⟨(wide_Of a0), (wide_Of a0)⟩, ⟨(wide_Of a0), (wide_Of a0)⟩, ⟨(wide_Of a0), (wide_Of a0)⟩, ⟨(wide_Of a0), (wide_Of a0)⟩, ⟨(wide_Of a0), (wide_Of a0)⟩, ⟨⟨0, 0, 0, 0⟩, ⟨0, 0, 0, 0⟩⟩⟩)) sizeOf27 rfl rfl rfl rfl)) (.inr fun _ _ _ h => (h.imp (Ls.of (.cons .k1 .nil))).ro Rs.nil) fun _ _ => ?_
  refine .dnil ?_
  refine .inn ?_
  refine .then ?_
  refine .reg rfl ?_
  refine .opp (P.bin (v := N 2) .g0 .k (.addc (by decide))) rfl ?_
  refine .drop .k1 ?_
  refine .opp (P.mov .t0) rfl ?_
  refine .nil ?_
  refine .then ?_
  refine .rd ?_
  refine .seq ?_
  refine .reg rfl ?_
  refine .opp (P.bin (v := Bo false) .g0 .k (BinV.lss.boolc (by decide))) rfl ?_
  refine .nil ?_
  refine .then ?_
  refine .seq ?_
  refine .condF .t0 ?_
  refine .exit ?_
  refine .thx ?_
  refine .thx ?_
  refine .inb ?_
  refine .inn ?_
  refine .then ?_
  refine .reg rfl ?_
  refine .opp (P.bin (v := N 7) .g2 .k (.addc (by decide))) rfl ?_
  refine .drop .k3 ?_
  refine .opp (P.mov .t0) rfl ?_
  refine .nil ?_
  refine .then ?_
  refine .rd ?_
  refine .seq ?_
  refine .reg rfl ?_
  refine .opp (P.bin (v := Bo true) .g0 .k (BinV.lss.boolc (by decide))) rfl ?_
  refine .nil ?_
  refine .then ?_
  refine .seq ?_
  refine .condT .t0 ?_
  refine .skip ?_
  refine .then ?_
  refine .seq ?_
  refine .block ?_
  refine .seq ?_
  refine .reg rfl ?_
  refine .opp (P.mov .g0) rfl ?_
  refine .drop .k3 ?_
  refine .opp (P.asg .t0) rfl ?_
  refine .nil ?_
  refine .then ?_
  refine .seq ?_
  refine .reg rfl ?_
  refine .drop .k2 ?_
  refine .opp (P.mov .k) rfl ?_
  refine .nil ?_
  refine .then ?_
  refine .block ?_
  refine .rounds 3 ?_
  refine .rd ?_
  refine .seq ?_
  refine .reg rfl ?_
  refine .opp (P.bin (v := Bo true) .g0 .k (BinV.lss.boolc (by decide))) rfl ?_
  refine .nil ?_
  refine .then ?_
  refine .seq ?_
  refine .condT .t0 ?_
  refine .skip ?_
  refine .then ?_
  refine .seq ?_
  refine .block ?_
  refine .seq ?_
  refine .reg rfl ?_
  refine .opp (P.mov .g0) rfl ?_
  refine .opp (P.asg .t0) rfl ?_
  refine .nil ?_
  refine .then ?_
  refine .drawl [blk b1 60 (purse_Book.cs ⟨⟨⟨0, 0, 0, 0⟩, ⟨0, 0, 0, 0⟩⟩, ⟨⟨0, 0, 0, 0⟩, ⟨0, 0, 0, 0⟩⟩, ⟨⟨0, 0, 0, 0⟩, ⟨0, 0, 0, 0⟩⟩, ⟨⟨0, 0, 0, 0⟩, ⟨0, 0, 0, 0⟩⟩, ⟨⟨0, 0, 0, 0⟩, ⟨0, 0, 0, 0⟩⟩, ⟨⟨0, 0, 0, 0⟩, ⟨0, 0, 0, 0⟩⟩, ⟨⟨0, 0, 0, 0⟩, ⟨0, 0, 0, 0⟩⟩, ⟨⟨0, 0, 0, 0⟩, ⟨0, 0, 0, 0⟩⟩⟩)] [] (Ls.of (.cons .k1 .nil)) Rs.nil 7 (.on 0 .pu (.on 1 .pu (.on 2 .pu (.on 4 .pu (.on 3 .go (.on 5 .pu (.on 6 .go .nl))))))) follows_mixed (.inb (.thn (.thn (.inb (.inb (.thn (.thn (.inb (.thn .body))))))))) (by kernel_rfl) ?_
  refine .dpu rfl (.n rfl) (P.mov .g2) rfl rfl ?_
  refine .dpu rfl (.n rfl) (P.mov .t1) rfl rfl ?_
  refine .dpu rfl (.n rfl) (P.mov .g7) rfl rfl ?_
  refine .dpu rfl (.n rfl) (P.iac (i := 7) .t2 rfl .g5 runUnderlying60 sizeOf54 rfl rfl) rfl rfl ?_
  refine .dgo rfl (.n rfl) (G.call call74 (.cons .t1 .nil) (S_wide_Of a0 _ rfl) .nil .nil (fun _ _ => rfl) (fun _ _ => rfl) rfl) (.inr fun _ _ _ h => (h.imp (Ls.of (.cons .k1 .nil))).ro Rs.nil) fun _ _ => ?_
  refine .dpu rfl (.n rfl) (P.iac (i := 0) .t2 rfl .t1 runUnderlying54 sizeOf27 rfl rfl) rfl rfl ?_
  refine .dgo rfl (.n rfl) (G.str .t1 .t0 .k0 (.mk (cs' := (purse_Book.cs ⟨⟨(wide_Of a0), (wide_Of a0)⟩, ⟨(wide_Of a0), (wide_Of a0)⟩, ⟨(wide_Of a0), (wide_Of a0)⟩, ⟨(wide_Of a0), (wide_Of a0)⟩, ⟨(wide_Of a0), (wide_Of a0)⟩, ⟨(wide_Of a0), (wide_Of a0)⟩, ⟨(wide_Of a0), (wide_Of a0)⟩, ⟨(wide_Of a0), ⟨0, 0, 0, 0⟩⟩⟩)) sizeOf27 rfl rfl rfl rfl)) (.inr fun _ _ _ h => (h.imp (Ls.of (.cons .k1 .nil))).ro Rs.nil) fun _ _ => ?_
  refine .dnil ?_
  refine .inn ?_
  refine .then ?_
  refine .reg rfl ?_
  refine .opp (P.bin (v := N 1) .g0 .k (.addc (by decide))) rfl ?_
  refine .drop .k1 ?_
  refine .opp (P.mov .t0) rfl ?_
  refine .nil ?_
  refine .then ?_
  refine .rd ?_
  refine .seq ?_
  refine .reg rfl ?_
  refine .opp (P.bin (v := Bo true) .g0 .k (BinV.lss.boolc (by decide))) rfl ?_
  refine .nil ?_
  refine .then ?_
  refine .seq ?_
  refine .condT .t0 ?_
  refine .skip ?_
  refine .then ?_
  refine .seq ?_
  refine .block ?_
  refine .seq ?_
  refine .reg rfl ?_
  refine .opp (P.mov .g0) rfl ?_
  refine .opp (P.asg .t0) rfl ?_
  refine .nil ?_
  refine .then ?_
  refine .drawl [blk b1 60 (purse_Book.cs ⟨⟨⟨0, 0, 0, 0⟩, ⟨0, 0, 0, 0⟩⟩, ⟨⟨0, 0, 0, 0⟩, ⟨0, 0, 0, 0⟩⟩, ⟨⟨0, 0, 0, 0⟩, ⟨0, 0, 0, 0⟩⟩, ⟨⟨0, 0, 0, 0⟩, ⟨0, 0, 0, 0⟩⟩, ⟨⟨0, 0, 0, 0⟩, ⟨0, 0, 0, 0⟩⟩, ⟨⟨0, 0, 0, 0⟩, ⟨0, 0, 0, 0⟩⟩, ⟨⟨0, 0, 0, 0⟩, ⟨0, 0, 0, 0⟩⟩, ⟨⟨0, 0, 0, 0⟩, ⟨0, 0, 0, 0⟩⟩⟩)] [] (Ls.of (.cons .k1 .nil)) Rs.nil 7 (.on 0 .pu (.on 1 .pu (.on 2 .pu (.on 4 .pu (.on 3 .go (.on 5 .pu (.on 6 .go .nl))))))) follows_mixed (.inb (.thn (.thn (.inb (.inb (.thn (.thn (.inb (.thn .body))))))))) (by kernel_rfl) ?_
  refine .dpu rfl (.n rfl) (P.mov .g2) rfl rfl ?_
  refine .dpu rfl (.n rfl) (P.mov .t1) rfl rfl ?_
  refine .dpu rfl (.n rfl) (P.mov .g7) rfl rfl ?_
  refine .dpu rfl (.n rfl) (P.iac (i := 7) .t2 rfl .g5 runUnderlying60 sizeOf54 rfl rfl) rfl rfl ?_
  refine .dgo rfl (.n rfl) (G.call call74 (.cons .t1 .nil) (S_wide_Of a0 _ rfl) .nil .nil (fun _ _ => rfl) (fun _ _ => rfl) rfl) (.inr fun _ _ _ h => (h.imp (Ls.of (.cons .k1 .nil))).ro Rs.nil) fun _ _ => ?_
  refine .dpu rfl (.n rfl) (P.iac (i := 1) .t2 rfl .t1 runUnderlying54 sizeOf27 rfl rfl) rfl rfl ?_
  refine .dgo rfl (.n rfl) (G.str .t1 .t0 .k0 (.mk (cs' := (purse_Book.cs ⟨⟨(wide_Of a0), (wide_Of a0)⟩, ⟨(wide_Of a0), (wide_Of a0)⟩, ⟨(wide_Of a0), (wide_Of a0)⟩, ⟨(wide_Of a0), (wide_Of a0)⟩, ⟨(wide_Of a0), (wide_Of a0)⟩, ⟨(wide_Of a0), (wide_Of a0)⟩, ⟨(wide_Of a0), (wide_Of a0)⟩, ⟨(wide_Of a0), (wide_Of a0)⟩⟩)) sizeOf27 rfl rfl rfl rfl)) (.inr fun _ _ _ h => (h.imp (Ls.of (.cons .k1 .nil))).ro Rs.nil) fun _ _ => ?_
  refine .dnil ?_
  refine .inn ?_
  refine .then ?_
  refine .reg rfl ?_
  refine .opp (P.bin (v := N 2) .g0 .k (.addc (by decide))) rfl ?_
  refine .drop .k1 ?_
  refine .opp (P.mov .t0) rfl ?_
  refine .nil ?_
  refine .then ?_
  refine .rd ?_
  refine .seq ?_
  refine .reg rfl ?_
  refine .opp (P.bin (v := Bo false) .g0 .k (BinV.lss.boolc (by decide))) rfl ?_
  refine .nil ?_
  refine .then ?_
  refine .seq ?_
  refine .condF .t0 ?_
  refine .exit ?_
  refine .thx ?_
  refine .thx ?_
  refine .inb ?_
  refine .inn ?_
  refine .then ?_
  refine .reg rfl ?_
  refine .opp (P.bin (v := N 8) .g2 .k (.addc (by decide))) rfl ?_
  refine .drop .k3 ?_
  refine .opp (P.mov .t0) rfl ?_
  refine .nil ?_
  refine .then ?_
  refine .rd ?_
  refine .seq ?_
  refine .reg rfl ?_
  refine .opp (P.bin (v := Bo false) .g0 .k (BinV.lss.boolc (by decide))) rfl ?_
  refine .nil ?_
  refine .then ?_
  refine .seq ?_
  refine .condF .t0 ?_
  refine .exit ?_
  refine .thx ?_
  refine .thx ?_
  refine .inb ?_
  refine .then ?_
  refine .seq ?_
  refine .reg rfl ?_
  refine .op (V.ld (v := Ag (purse_Book.cs ⟨⟨(wide_Of a0), (wide_Of a0)⟩, ⟨(wide_Of a0), (wide_Of a0)⟩, ⟨(wide_Of a0), (wide_Of a0)⟩, ⟨(wide_Of a0), (wide_Of a0)⟩, ⟨(wide_Of a0), (wide_Of a0)⟩, ⟨(wide_Of a0), (wide_Of a0)⟩, ⟨(wide_Of a0), (wide_Of a0)⟩, ⟨(wide_Of a0), (wide_Of a0)⟩⟩)) .t3 .k0 (.agg isAgg60 sizeOf60 rfl rfl)) rfl ?_
  refine .opg (G.str .t0 .g3 .k1 (.mk (cs' := (purse_Book.cs ⟨⟨(wide_Of a0), (wide_Of a0)⟩, ⟨(wide_Of a0), (wide_Of a0)⟩, ⟨(wide_Of a0), (wide_Of a0)⟩, ⟨(wide_Of a0), (wide_Of a0)⟩, ⟨(wide_Of a0), (wide_Of a0)⟩, ⟨(wide_Of a0), (wide_Of a0)⟩, ⟨(wide_Of a0), (wide_Of a0)⟩, ⟨(wide_Of a0), (wide_Of a0)⟩⟩)) sizeOf60 rfl rfl rfl rfl)) rfl fun _ _ => ?_
  refine .nil ?_
  refine .then ?_
  refine .ret ?_
  subst h
  exact .finw () (.r1 rfl (.cell .g3 .k0 (.agg isAgg60 sizeOf60 rfl rfl))) trivial (Ls.of .nil) .nil
attribute [irreducible] purse_Even
noncomputable def escrow_Genesis (a0 : Int) (a1 : Int) : escrow_State :=
  (⟨if 1 < if 0 > a0 then 0 else a0 then 1 else if 0 > a0 then 0 else a0, if 1099511627776 < if 0 > a1 then 0 else a1 then 1099511627776 else if 0 > a1 then 0 else a1, (purse_Even 1000), ⟨⟨⟨0, 0, 0, 0⟩, ⟨0, 0, 0, 0⟩⟩, ⟨⟨0, 0, 0, 0⟩, ⟨0, 0, 0, 0⟩⟩, ⟨⟨0, 0, 0, 0⟩, ⟨0, 0, 0, 0⟩⟩, ⟨⟨0, 0, 0, 0⟩, ⟨0, 0, 0, 0⟩⟩, ⟨⟨0, 0, 0, 0⟩, ⟨0, 0, 0, 0⟩⟩, ⟨⟨0, 0, 0, 0⟩, ⟨0, 0, 0, 0⟩⟩, ⟨⟨0, 0, 0, 0⟩, ⟨0, 0, 0, 0⟩⟩, ⟨⟨0, 0, 0, 0⟩, ⟨0, 0, 0, 0⟩⟩⟩, ⟨0, 0, 0, 0, 0, 0, 0, 0⟩, ⟨⟨0, 0, 0, 0⟩, ⟨0, 0, 0, 0⟩⟩, ⟨0, 0, 0, 0⟩, []⟩ : escrow_State)
set_option maxRecDepth 20000 in
set_option maxHeartbeats 1000000 in
theorem S_escrow_Genesis (a0 : Int) (a1 : Int) (r : escrow_State) (h : escrow_Genesis a0 a1 = r) :
    SpecF Try.prog 54 [N a0, N a1] [] [] (fun _ : Value => True) (fun z => Ag (escrow_State.cs r z)) (fun z M =>  M) (fun z M => rows 3 z (r.Locks.map escrow_Lock.cs) ::  M) := by
  refine .of func54 rfl ntmps54 rfl fun w0 D0 G0 => ?_
  unfold escrow_Genesis at h
  refine .seq ?_
  refine .reg rfl ?_
  refine .opx (X.alc (cs := (escrow_State.cs ⟨0, 0, ⟨⟨⟨0, 0, 0, 0⟩, ⟨0, 0, 0, 0⟩⟩, ⟨⟨0, 0, 0, 0⟩, ⟨0, 0, 0, 0⟩⟩, ⟨⟨0, 0, 0, 0⟩, ⟨0, 0, 0, 0⟩⟩, ⟨⟨0, 0, 0, 0⟩, ⟨0, 0, 0, 0⟩⟩, ⟨⟨0, 0, 0, 0⟩, ⟨0, 0, 0, 0⟩⟩, ⟨⟨0, 0, 0, 0⟩, ⟨0, 0, 0, 0⟩⟩, ⟨⟨0, 0, 0, 0⟩, ⟨0, 0, 0, 0⟩⟩, ⟨⟨0, 0, 0, 0⟩, ⟨0, 0, 0, 0⟩⟩⟩, ⟨⟨⟨0, 0, 0, 0⟩, ⟨0, 0, 0, 0⟩⟩, ⟨⟨0, 0, 0, 0⟩, ⟨0, 0, 0, 0⟩⟩, ⟨⟨0, 0, 0, 0⟩, ⟨0, 0, 0, 0⟩⟩, ⟨⟨0, 0, 0, 0⟩, ⟨0, 0, 0, 0⟩⟩, ⟨⟨0, 0, 0, 0⟩, ⟨0, 0, 0, 0⟩⟩, ⟨⟨0, 0, 0, 0⟩, ⟨0, 0, 0, 0⟩⟩, ⟨⟨0, 0, 0, 0⟩, ⟨0, 0, 0, 0⟩⟩, ⟨⟨0, 0, 0, 0⟩, ⟨0, 0, 0, 0⟩⟩⟩, ⟨0, 0, 0, 0, 0, 0, 0, 0⟩, ⟨⟨0, 0, 0, 0⟩, ⟨0, 0, 0, 0⟩⟩, ⟨0, 0, 0, 0⟩, []⟩ nilSl)) zeroValue64 rfl) rfl fun b1 => ?_
  refine .nil ?_
  refine .then ?_
  refine .seq ?_
  refine .reg rfl ?_
  refine .opp (P.mov .t1) rfl ?_
  refine .opp (P.max2 .t0 .k) rfl ?_
  refine .opp (P.min2 .t0 .k) rfl ?_
  refine .opp (P.mov .t2) rfl ?_
  refine .opp (P.max2 .t0 .k) rfl ?_
  refine .opp (P.min2 .t0 .k) rfl ?_
  refine .opg (G.call call112 (.cons .k .nil) (S_purse_Even 1000 _ rfl) .nil .nil (fun _ _ => rfl) (fun _ _ => rfl) rfl) rfl fun _ _ => ?_
  refine .opp (P.bld (v := Ag (escrow_State.cs ⟨if 1 < if 0 > a0 then 0 else a0 then 1 else if 0 > a0 then 0 else a0, if 1099511627776 < if 0 > a1 then 0 else a1 then 1099511627776 else if 0 > a1 then 0 else a1, (purse_Even 1000), ⟨⟨⟨0, 0, 0, 0⟩, ⟨0, 0, 0, 0⟩⟩, ⟨⟨0, 0, 0, 0⟩, ⟨0, 0, 0, 0⟩⟩, ⟨⟨0, 0, 0, 0⟩, ⟨0, 0, 0, 0⟩⟩, ⟨⟨0, 0, 0, 0⟩, ⟨0, 0, 0, 0⟩⟩, ⟨⟨0, 0, 0, 0⟩, ⟨0, 0, 0, 0⟩⟩, ⟨⟨0, 0, 0, 0⟩, ⟨0, 0, 0, 0⟩⟩, ⟨⟨0, 0, 0, 0⟩, ⟨0, 0, 0, 0⟩⟩, ⟨⟨0, 0, 0, 0⟩, ⟨0, 0, 0, 0⟩⟩⟩, ⟨0, 0, 0, 0, 0, 0, 0, 0⟩, ⟨⟨0, 0, 0, 0⟩, ⟨0, 0, 0, 0⟩⟩, ⟨0, 0, 0, 0⟩, []⟩ nilSl)) (.cons .t2 (.cons .t1 (.cons .t0 .nil))) (bld_run zeroValue64 runUnderlying64 pl_64 (by kernel_rfl))) rfl ?_
  refine .opg (G.str .t0 .g0 .k0 (.mk (cs' := (escrow_State.cs ⟨if 1 < if 0 > a0 then 0 else a0 then 1 else if 0 > a0 then 0 else a0, if 1099511627776 < if 0 > a1 then 0 else a1 then 1099511627776 else if 0 > a1 then 0 else a1, (purse_Even 1000), ⟨⟨⟨0, 0, 0, 0⟩, ⟨0, 0, 0, 0⟩⟩, ⟨⟨0, 0, 0, 0⟩, ⟨0, 0, 0, 0⟩⟩, ⟨⟨0, 0, 0, 0⟩, ⟨0, 0, 0, 0⟩⟩, ⟨⟨0, 0, 0, 0⟩, ⟨0, 0, 0, 0⟩⟩, ⟨⟨0, 0, 0, 0⟩, ⟨0, 0, 0, 0⟩⟩, ⟨⟨0, 0, 0, 0⟩, ⟨0, 0, 0, 0⟩⟩, ⟨⟨0, 0, 0, 0⟩, ⟨0, 0, 0, 0⟩⟩, ⟨⟨0, 0, 0, 0⟩, ⟨0, 0, 0, 0⟩⟩⟩, ⟨0, 0, 0, 0, 0, 0, 0, 0⟩, ⟨⟨0, 0, 0, 0⟩, ⟨0, 0, 0, 0⟩⟩, ⟨0, 0, 0, 0⟩, []⟩ nilSl)) sizeOf64 rfl (onez_64 _ rfl) rfl rfl)) rfl fun _ _ => ?_
  refine .nil ?_
  refine .then ?_
  refine .ret ?_
  subst h
  refine .rnil0 3 ?_
  exact .finw nilSl (.r1 rfl (.cell .g0 .k0 (.agg isAgg64 sizeOf64 rfl rfl))) trivial (Ls.of .nil) (.cons Mm.m0 .nil)
attribute [irreducible] escrow_Genesis
noncomputable def scan_Deals (a0 : List api_Event) : Option ((List api_Tx)) :=
  Option.bind (loopR (fun (i1 : Nat) (e4 : api_Event) (s2 : (List api_Tx)) => Option.bind (thn (if (decide (e4.Code = 0)) = true then (decide (e4.Tx.Kind = 4)) else false) fun (y22 : Bool) => if y22 = true then (grd ((s2.length + ([e4.Tx] : List api_Tx).length) * 224 ≤ 140737488355328) <| some ((s2 ++ ([e4.Tx] : List api_Tx)))) else (some s2)) fun (y15 : (List api_Tx)) => some (.nx y15)) 0 a0 ([])) fun o5 => Lo.on o5 fun (s2 : (List api_Tx)) => some s2
set_option maxRecDepth 20000 in
set_option maxHeartbeats 1000000 in
theorem S_scan_Deals (v00 : Value) (a0 : List api_Event) (r : (List api_Tx)) (h : scan_Deals a0 = some r) :
    SpecF Try.prog 37 [v00] [] [rows 27 v00 (a0.map api_Event.cs)] (fun _ : Value => True) (fun z => z) (fun z M => lst 36 25 z (r.map api_Tx.cs) ::  M) (fun z M =>  M) := by
  refine .of func37 rfl ntmps37 rfl fun w0 D0 G0 => ?_
  unfold scan_Deals at h
  refine .seq ?_
  refine .reg rfl ?_
  refine .op0 (OpP.toV (P.asg .k)) rfl ?_
  refine .nil ?_
  refine .then ?_
  refine .seq ?_
  refine .reg rfl ?_
  refine .opp (P.asg .k) rfl ?_
  refine .nil ?_
  refine .then ?_
  refine .seq ?_
  refine .seq ?_
  refine .reg rfl ?_
  refine .opp (P.mov .t1) rfl ?_
  refine .op (V.lnr (n := a0.length) .g0 Mm.m0 map_len runUnderlying22) rfl ?_
  refine .opp (P.mov .k) rfl ?_
  refine .nil ?_
  refine .then ?_
  refine .block ?_
  refine .lnil 36 25 ?_
  obtain ⟨o5, ho6, h⟩ := bnd_eq h
  refine .lenq Mm.m0 fun hl12 => ?_
  rw [map_len] at hl12
  refine .loopR (γ := Value) (fun i1 (s2 : (List api_Tx)) z3 => [(8, N ((i1 : Int))), (7, N ((a0.length : Int))), (6, v00), (3, z3)]) (fun (s2 : (List api_Tx)) z3 => [lst 36 25 z3 (s2.map api_Tx.cs)]) (fun (s2 : (List api_Tx)) z3 => [rows 27 v00 (a0.map api_Event.cs)]) nilSl ho6 (.cons Mm.m0 (.cons Mm.m1 (.cons Mm.m2 (.cons Mm.m3 .nil)))) (.of (.cons .k0 .nil)) (.cons Mm.m0 .nil) (fun i1 s2 z3 hi13 hr9 => ?_)
  refine .seq ?_
  refine .reg rfl ?_
  refine .opp (P.bin (v := Bo (decide ((i1 : Int) < (a0.length : Nat)))) .g0 .g1 .lss) rfl ?_
  refine .nil ?_
  refine .then ?_
  refine .seq ?_
  refine .cond .t0 (fun c14 => ?_) (fun c14 => ?_)
  · obtain ⟨e4, hx11⟩ := get_of c14
    obtain ⟨ct10, hc7, hn8⟩ := loopR_at hx11 hr9
    refine .skip ?_
    refine .then ?_
    obtain ⟨y15, hj17, hc7⟩ := bnd_eq hc7
    refine .cutx (γ := Value) (E1 := fun z16 => [(3, z16), (8, N ((i1 : Int))), (7, N ((a0.length : Int))), (6, v00)]) (L1 := fun z16 => [lst 36 25 z16 (y15.map api_Tx.cs)]) (R1 := fun z16 => [rows 27 v00 (a0.map api_Event.cs)]) ?_ (fun z16 => ?_)
    · clear hc7
      refine .block ?_
      refine .seq ?_
      refine .reg rfl ?_
      refine .ixq Mm.m0 (map_get hx11) fun p18 q19 hq20 => ?_
      refine .opp (P.ixi (i := i1) .g0 rfl .g2 hq20 runUnderlying22 sizeOf38) rfl ?_
      refine .op (V.ldx0 (u := Ag (api_Event.cs e4)) .t0 hq20 Mm.m0 (map_get hx11) (.agg isAgg38 sizeOf38 rfl rfl)) rfl ?_
      refine .opx (X.alc (cs := (api_Event.cs ⟨0, 0, ⟨0, 0, 0, 0, ⟨0, 0, 0, 0⟩, ⟨0, ⟨#[]⟩, 0, 0, 0, 0, ⟨#[]⟩⟩, ⟨⟨0, 0, 0, 0⟩, 0⟩, ⟨0, 0, 0, 0⟩, ⟨#[]⟩⟩⟩)) zeroValue38 rfl) rfl fun b21 => ?_
      refine .opg (G.str .t1 .g0 .k0 (.mk (cs' := (api_Event.cs e4)) sizeOf38 rfl rfl rfl rfl)) rfl fun _ _ => ?_
      refine .nil ?_
      refine .then ?_
      obtain ⟨y22, hj24, hj17⟩ := thn_eq hj17
      refine .cutx (γ := Unit) (E1 := fun z23 => [(20, Bo y22), (5, pt b21 0), (8, N ((i1 : Int))), (7, N ((a0.length : Int))), (6, v00), (3, z3)]) (L1 := fun z23 => [blk b21 38 (api_Event.cs e4), lst 36 25 z3 (s2.map api_Tx.cs)]) (R1 := fun z23 => [rows 27 v00 (a0.map api_Event.cs)]) ?_ (fun z23 => ?_)
      · clear hj17
        refine .reg rfl ?_
        refine .opp (P.fa .g0 fa_38_1 rfl) rfl ?_
        refine .op (V.ld (v := N e4.Code) .t0 .k0 (.one isAgg30 rfl)) rfl ?_
        refine .opp (P.bin .t0 .k .eql) rfl ?_
        refine .opp (P.mov .t0) rfl ?_
        refine .split .k0 (fun c25 => ?_) (fun c25 => ?_)
        · rw [if_pos c25] at hj24
          refine .gyes rfl .g0 ?_
          refine .opp (P.fa .g1 fa_38_2 rfl) rfl ?_
          refine .gyes rfl .g1 ?_
          refine .opp (P.fa .t0 fa_36_2 rfl) rfl ?_
          refine .gyes rfl .g1 ?_
          refine .op (V.ld (v := N e4.Tx.Kind) .t0 .k0 (.one isAgg3 rfl)) rfl ?_
          refine .gyes rfl .g1 ?_
          refine .opp (P.bin .t0 .k .eql) rfl ?_
          refine .opp (P.pickT .t1 .t0) rfl ?_
          refine .nil ?_
          subst hj24
          exact .stj () (.cons Mm.m0 (.cons Mm.m1 (.cons Mm.m2 (.cons Mm.m3 (.cons Mm.m4 (.cons Mm.m5 .nil)))))) (.of (.cons .k0 (.cons .k0 .nil))) (.cons Mm.m0 .nil)
        · rw [if_neg (ne_true_of_eq_false c25)] at hj24
          refine .gno rfl .g0 rfl rfl ?_
          refine .gno rfl .g0 rfl rfl ?_
          refine .gno rfl .g0 rfl rfl ?_
          refine .gno rfl .g0 rfl rfl ?_
          refine .opp (P.pickF .t0 .k) rfl ?_
          refine .nil ?_
          subst hj24
          exact .stj () (.cons Mm.m0 (.cons Mm.m1 (.cons Mm.m2 (.cons Mm.m3 (.cons Mm.m4 (.cons Mm.m5 .nil)))))) (.of (.cons .k0 (.cons .k0 .nil))) (.cons Mm.m0 .nil)
      · clear hj24
        refine .cond .t0 (fun c26 => ?_) (fun c26 => ?_)
        · rw [if_pos c26] at hj17
          refine .reg rfl ?_
          refine .opp (P.mov .g4) rfl ?_
          refine .opp (P.fa .t1 fa_38_2 rfl) rfl ?_
          refine .op (V.ld (v := Ag (api_Tx.cs e4.Tx)) .t0 .k0 (.agg isAgg36 sizeOf36 rfl rfl)) rfl ?_
          refine .opg (G.bsl (cs := (api_Tx.cs e4.Tx)) .t0 runUnderlying80 sizeOf36 zeroValue36 rfl rfl rfl rfl rfl) rfl fun u27 _ => ?_
          obtain ⟨hb29, hj17⟩ := grd_eq hj17
          refine .opg (G.app (by_ := 224) .t1 .t0 .k2 (.inr (.inr ⟨_, Mm.m0⟩)) runUnderlying80 runUnderlying80 sizeOf36 typeInfo36 rfl rfl zeroValue36 rfl rfl (by simpa using hb29) rfl) rfl fun u28 _ => ?_
          refine .conseq .k0 (q := lst 36 25 u28 (((s2 ++ ([e4.Tx] : List api_Tx))).map api_Tx.cs)) (fun _ hh => by simpa [List.map_append] using hh) ?_
          refine .drop .k4 ?_
          refine .opp (P.asg .t0) rfl ?_
          refine .nil ?_
          refine .inn ?_
          cases hj17
          exact .stj u28 (.cons Mm.m0 (.cons Mm.m1 (.cons Mm.m2 (.cons Mm.m3 .nil)))) (.of (.cons .k0 .nil)) (.cons Mm.m0 .nil)
        · rw [if_neg (ne_true_of_eq_false c26)] at hj17
          refine .skip ?_
          refine .inn ?_
          cases hj17
          exact .stj z3 (.cons Mm.m4 (.cons Mm.m1 (.cons Mm.m2 (.cons Mm.m3 .nil)))) (.of (.cons .k1 .nil)) (.cons Mm.m0 .nil)
    · clear hj17
      refine .reg rfl ?_
      refine .opp (P.bin .g1 .k (.addc (inc_ok (lt_of_get hx11) hl12))) rfl ?_
      refine .drop .k2 ?_
      refine .opp (P.mov .t0) rfl ?_
      refine .nil ?_
      cases hc7
      exact .rdR y15 z16 hn8 (lt_of_get hx11) (.cons Mm.m0 (.cons Mm.m2 (.cons Mm.m3 (.cons Mm.m1 .nil)))) (.of (.cons .k0 .nil)) (.cons Mm.m0 .nil)
  · obtain rfl := loopR_end (le_of_not c14) hr9
    have h := dn_on h
    refine .exit ?_
    refine .thx ?_
    refine .thx ?_
    refine .inb ?_
    refine .then ?_
    refine .seq ?_
    refine .reg rfl ?_
    refine .opp (P.mov .t3) rfl ?_
    refine .opp (P.asg .t0) rfl ?_
    refine .nil ?_
    refine .then ?_
    refine .ret ?_
    cases h
    exact .finw z3 (.r1 rfl (.tmp .g0)) trivial (Ls.of (.cons .k0 .nil)) .nil
attribute [irreducible] scan_Deals
noncomputable def escrow_State_place_1_c (a0 : escrow_Lock) (a1 : ByteArray) : Bool :=
  decide (a0.Key = a1)
set_option maxRecDepth 20000 in
set_option maxHeartbeats 1000000 in
theorem S_escrow_State_place_1_c (a0 : escrow_Lock) (b01 : Nat) (a1 : ByteArray) (r : Bool) (h : escrow_State_place_1_c a0 a1 = r) :
    SpecF Try.prog 134 [Ag (escrow_Lock.cs a0), pt b01 0] [blk b01 9 [.string a1]] [] (fun _ : Unit => True) (fun z => Bo r) (fun z M => blk b01 9 [.string a1] ::  M) (fun z M =>  M) := by
  refine .of func134 rfl ntmps134 rfl fun w0 D0 G0 => ?_
  unfold escrow_State_place_1_c at h
  refine .seq ?_
  refine .reg rfl ?_
  refine .opx (X.box (cs := (escrow_Lock.cs a0)) .t0 rfl) rfl fun b1 => ?_
  refine .op0 (OpP.toV (P.asg .k)) rfl ?_
  refine .nil ?_
  refine .then ?_
  refine .seq ?_
  refine .reg rfl ?_
  refine .opp (P.fa .t0 fa_150_0 rfl) rfl ?_
  refine .op (V.ld (v := .string a0.Key) .t0 .k0 (.one isAgg9 rfl)) rfl ?_
  refine .op (V.ld (v := .string a1) .t1 .k1 (.one isAgg9 rfl)) rfl ?_
  refine .opp (P.bin .t1 .t0 .str_eql) rfl ?_
  refine .opp (P.asg .t0) rfl ?_
  refine .nil ?_
  refine .then ?_
  refine .ret ?_
  subst h
  exact .finw () (.r1 rfl (.tmp .g0)) trivial (Ls.of (.cons .k1 .nil)) .nil
attribute [irreducible] escrow_State_place_1_c
noncomputable def slices_IndexFunc_i133_f134 (a0 : List escrow_Lock) (a1a : ByteArray) : Option (Int) :=
  Option.bind (loopR (fun (i1 : Nat) (e4 : escrow_Lock) (s2 : Unit) => if ((escrow_State_place_1_c e4 a1a)) = true then (Option.map Ct.rt (some (i1 : Int))) else (some (.nx ()))) 0 a0 ()) fun o5 => Lo.on o5 fun (s2 : Unit) => some (-1)
set_option maxRecDepth 20000 in
set_option maxHeartbeats 1000000 in
theorem S_slices_IndexFunc_i133_f134 (v00 : Value) (a0 : List escrow_Lock) (b01a : Nat) (a1a : ByteArray) (r : Int) (h : slices_IndexFunc_i133_f134 a0 a1a = some r) :
    SpecF Try.prog 133 [v00, fnv 134 [pt b01a 0]] [blk b01a 9 [.string a1a]] [rows 3 v00 (a0.map escrow_Lock.cs)] (fun _ : Unit => True) (fun z => N r) (fun z M => blk b01a 9 [.string a1a] ::  M) (fun z M =>  M) := by
  refine .of func133 rfl ntmps133 rfl fun w0 D0 G0 => ?_
  unfold slices_IndexFunc_i133_f134 at h
  refine .seq ?_
  refine .reg rfl ?_
  refine .op0 (OpP.toV (P.asg .k)) rfl ?_
  refine .nil ?_
  refine .then ?_
  refine .seq ?_
  refine .seq ?_
  refine .reg rfl ?_
  refine .opp (P.mov .g0) rfl ?_
  refine .op (V.lnr (n := a0.length) .t0 Mm.m0 map_len runUnderlying62) rfl ?_
  refine .opp (P.mov .k) rfl ?_
  refine .nil ?_
  refine .then ?_
  refine .block ?_
  obtain ⟨o5, ho6, h⟩ := bnd_eq h
  refine .lenq Mm.m0 fun hl12 => ?_
  rw [map_len] at hl12
  refine .loopR (γ := Unit) (fun i1 (s2 : Unit) z3 => [(8, N ((i1 : Int))), (7, N ((a0.length : Int))), (0, v00), (1, fnv 134 [pt b01a 0])]) (fun (s2 : Unit) z3 => [blk b01a 9 [.string a1a]]) (fun (s2 : Unit) z3 => [rows 3 v00 (a0.map escrow_Lock.cs)]) () ho6 (.cons Mm.m0 (.cons Mm.m1 (.cons Mm.m2 (.cons Mm.m3 .nil)))) (.of (.cons .k0 .nil)) (.cons Mm.m0 .nil) (fun i1 s2 z3 hi13 hr9 => ?_)
  refine .seq ?_
  refine .reg rfl ?_
  refine .opp (P.bin (v := Bo (decide ((i1 : Int) < (a0.length : Nat)))) .g0 .g1 .lss) rfl ?_
  refine .nil ?_
  refine .then ?_
  refine .seq ?_
  refine .cond .t0 (fun c14 => ?_) (fun c14 => ?_)
  · obtain ⟨e4, hx11⟩ := get_of c14
    obtain ⟨ct10, hc7, hn8⟩ := loopR_at hx11 hr9
    refine .skip ?_
    refine .then ?_
    refine .seq ?_
    refine .block ?_
    refine .seq ?_
    refine .reg rfl ?_
    refine .opp (P.mov .g0) rfl ?_
    refine .opp (P.asg .t0) rfl ?_
    refine .nil ?_
    refine .then ?_
    refine .seq ?_
    refine .reg rfl ?_
    refine .opp (P.mov .g4) rfl ?_
    refine .opp (P.mov .g4) rfl ?_
    refine .opp (P.mov .g2) rfl ?_
    refine .ixq Mm.m0 (map_get hx11) fun p15 q16 hq17 => ?_
    refine .opp (P.ixi (i := i1) .t0 rfl .t0 hq17 runUnderlying62 sizeOf150) rfl ?_
    refine .op (V.ldx0 (u := Ag (escrow_Lock.cs e4)) .t0 hq17 Mm.m0 (map_get hx11) (.agg isAgg150 sizeOf150 rfl rfl)) rfl ?_
    refine .opg (G.callv call134 .t1 (.cons .t0 .nil) (S_escrow_State_place_1_c e4 b01a a1a _ rfl) (.cons .k0 .nil) .nil (fun _ _ => rfl) (fun _ _ => rfl) rfl) rfl fun _ _ => ?_
    refine .nil ?_
    refine .then ?_
    refine .cond .t0 (fun c18 => ?_) (fun c18 => ?_)
    · rw [if_pos c18] at hc7
      refine .seq ?_
      refine .reg rfl ?_
      refine .opp (P.mov .t0) rfl ?_
      refine .opp (P.asg .t0) rfl ?_
      refine .nil ?_
      refine .then ?_
      refine .ret ?_
      refine .inr ?_
      refine .thr ?_
      obtain ⟨x19, hx20, rfl⟩ := map_rt hc7
      obtain rfl := hn8
      obtain rfl := rt_on h
      refine .thr ?_
      refine .inr ?_
      refine .thr ?_
      cases hx20
      exact .finw () (.r1 rfl (.tmp .g0)) trivial (Ls.of (.cons .k0 .nil)) .nil
    · rw [if_neg (ne_true_of_eq_false c18)] at hc7
      refine .skip ?_
      refine .inn ?_
      refine .then ?_
      refine .reg rfl ?_
      refine .opp (P.bin .g1 .k (.addc (inc_ok (lt_of_get hx11) hl12))) rfl ?_
      refine .drop .k2 ?_
      refine .opp (P.mov .t0) rfl ?_
      refine .nil ?_
      cases hc7
      exact .rdR () () hn8 (lt_of_get hx11) (.cons Mm.m0 (.cons Mm.m2 (.cons Mm.m3 (.cons Mm.m4 .nil)))) (.of (.cons .k0 .nil)) (.cons Mm.m0 .nil)
  · obtain rfl := loopR_end (le_of_not c14) hr9
    have h := dn_on h
    refine .exit ?_
    refine .thx ?_
    refine .thx ?_
    refine .inb ?_
    refine .then ?_
    refine .seq ?_
    refine .reg rfl ?_
    refine .opp (P.asg .k) rfl ?_
    refine .nil ?_
    refine .then ?_
    refine .ret ?_
    cases h
    exact .finw () (.r1 rfl (.tmp .g0)) trivial (Ls.of (.cons .k0 .nil)) .nil
attribute [irreducible] slices_IndexFunc_i133_f134
noncomputable def escrow_State_place (a0 : escrow_State) (a1 : ByteArray) : Option (Int) :=
  Option.bind (slices_IndexFunc_i133_f134 a0.Locks a1) fun r2 => some r2
set_option maxRecDepth 20000 in
set_option maxHeartbeats 1000000 in
theorem S_escrow_State_place (b00 : Nat) (a0 : escrow_State) (z00a : Value) (a1 : ByteArray) (r : Int) (h : escrow_State_place a0 a1 = some r) :
    SpecF Try.prog 84 [pt b00 0, .string a1] [blk b00 64 (escrow_State.cs a0 z00a)] [rows 3 z00a (a0.Locks.map escrow_Lock.cs)] (fun _ : Value => True) (fun z => N r) (fun z M => blk b00 64 (escrow_State.cs a0 z) ::  M) (fun z M => rows 3 z (a0.Locks.map escrow_Lock.cs) ::  M) := by
  refine .of func84 rfl ntmps84 rfl fun w0 D0 G0 => ?_
  unfold escrow_State_place at h
  refine .seq ?_
  refine .reg rfl ?_
  refine .opx (X.box (cs := [.string a1]) .t1 rfl) rfl fun b1 => ?_
  refine .op0 (OpP.toV (P.asg .k)) rfl ?_
  refine .nil ?_
  refine .then ?_
  refine .seq ?_
  refine .reg rfl ?_
  refine .opp (P.mov .t1) rfl ?_
  refine .opp (P.nilc .t0) rfl ?_
  refine .opp (P.fa .t0 fa_64_7 rfl) rfl ?_
  refine .op (V.ld (v := z00a) .t0 .k1 (.one isAgg62 rfl)) rfl ?_
  refine .opp (P.mkf (.cons .t1 .nil)) rfl ?_
  obtain ⟨r2, hr3, h⟩ := bnd_eq h
  refine .opg (G.call call133 (.cons .t1 (.cons .t0 .nil)) (S_slices_IndexFunc_i133_f134 z00a a0.Locks b1 a1 r2 hr3) (.cons .k0 .nil) (.cons Mm.m0 .nil) (fun _ _ => rfl) (fun _ _ => rfl) rfl) rfl fun _ _ => ?_
  refine .opp (P.asg .t0) rfl ?_
  refine .nil ?_
  refine .then ?_
  refine .ret ?_
  cases h
  exact .finw z00a (.r1 rfl (.tmp .g0)) trivial (Ls.of (.cons .k1 .nil)) (.cons Mm.m0 .nil)
attribute [irreducible] escrow_State_place
noncomputable def escrow_Status (a0 : escrow_State) (a1 : ByteArray) : Option (Int) :=
  Option.bind (escrow_State_place a0 a1) fun r2 => if (decide (r2 < 0)) = true then (some 0) else (Option.bind (at_ a0.Locks r2) fun (x9 : escrow_Lock) => some x9.Status)
set_option maxRecDepth 20000 in
set_option maxHeartbeats 1000000 in
theorem S_escrow_Status (a0 : escrow_State) (z00a : Value) (a1 : ByteArray) (r : Int) (h : escrow_Status a0 a1 = some r) :
    SpecF Try.prog 38 [Ag (escrow_State.cs a0 z00a), .string a1] [] [rows 3 z00a (a0.Locks.map escrow_Lock.cs)] (fun _ : Unit => True) (fun z => N r) (fun z M =>  M) (fun z M =>  M) := by
  refine .of func38 rfl ntmps38 rfl fun w0 D0 G0 => ?_
  unfold escrow_Status at h
  refine .seq ?_
  refine .reg rfl ?_
  refine .opx (X.box (cs := (escrow_State.cs a0 z00a)) .t0 rfl) rfl fun b1 => ?_
  refine .op0 (OpP.toV (P.asg .k)) rfl ?_
  refine .nil ?_
  refine .then ?_
  refine .seq ?_
  refine .reg rfl ?_
  refine .opp (P.mov .t1) rfl ?_
  obtain ⟨r2, hr3, h⟩ := bnd_eq h
  refine .opg (G.call call84 (.cons .g1 (.cons .t0 .nil)) (S_escrow_State_place b1 a0 z00a a1 r2 hr3) (.cons .k0 .nil) (.cons Mm.m0 .nil) (fun _ _ => rfl) (fun _ _ => rfl) rfl) rfl fun u4 _ => ?_
  refine .opp (P.asg .t0) rfl ?_
  refine .nil ?_
  refine .then ?_
  refine .seq ?_
  refine .seq ?_
  refine .reg rfl ?_
  refine .opp (P.mov .g0) rfl ?_
  refine .opp (P.bin .t0 .k .lss) rfl ?_
  refine .nil ?_
  refine .then ?_
  refine .cond .t0 (fun c5 => ?_) (fun c5 => ?_)
  · rw [if_pos c5] at h
    refine .seq ?_
    refine .reg rfl ?_
    refine .opp (P.asg .k) rfl ?_
    refine .nil ?_
    refine .then ?_
    refine .ret ?_
    refine .thr ?_
    cases h
    exact .finw () (.r1 rfl (.tmp .g0)) trivial (Ls.of .nil) .nil
  · rw [if_neg (ne_true_of_eq_false c5)] at h
    refine .skip ?_
    refine .then ?_
    refine .seq ?_
    refine .reg rfl ?_
    refine .opp (P.fa .t1 fa_64_7 rfl) rfl ?_
    refine .op (V.ld (v := u4) .t0 .k0 (.one isAgg62 rfl)) rfl ?_
    refine .opp (P.mov .t1) rfl ?_
    obtain ⟨x9, hx10, h⟩ := bnd_eq h
    obtain ⟨i11, hi12, hx10⟩ := at_eq hx10
    have hi12_ : (r2).toNat = i11 := by rw [hi12]; rfl
    refine .ixq Mm.m0 (map_get hx10) fun p6 q7 hq8 => ?_
    refine .opp (P.ixi (i := i11) .t0 hi12 .t0 hq8 runUnderlying62 sizeOf150) rfl ?_
    refine .opp (P.fa (off' := q7 + 2) .t0 fa_150_2 rfl) rfl ?_
    refine .op (V.ldx (u := N x9.Status) (off := q7) (k := 2) .t0 hq8 Mm.m0 (map_get hx10) (.one isAgg3 rfl)) rfl ?_
    refine .opp (P.asg .t0) rfl ?_
    refine .nil ?_
    refine .then ?_
    refine .ret ?_
    cases h
    exact .finw () (.r1 rfl (.tmp .g0)) trivial (Ls.of .nil) .nil
attribute [irreducible] escrow_Status
noncomputable def exposure_asset (a0 : Int) (a1 : api_Inv) : Int :=
  if (decide (a0 = 1)) = true then a1.Recv else a1.Send
set_option maxRecDepth 20000 in
set_option maxHeartbeats 1000000 in
theorem S_exposure_asset (a0 : Int) (a1 : api_Inv) (r : Int) (h : exposure_asset a0 a1 = r) :
    SpecF Try.prog 132 [N a0, Ag (api_Inv.cs a1)] [] [] (fun _ : Unit => True) (fun z => N r) (fun z M =>  M) (fun z M =>  M) := by
  refine .of func132 rfl ntmps132 rfl fun w0 D0 G0 => ?_
  unfold exposure_asset at h
  refine .seq ?_
  refine .reg rfl ?_
  refine .opx (X.box (cs := (api_Inv.cs a1)) .t1 rfl) rfl fun b1 => ?_
  refine .op0 (OpP.toV (P.asg .k)) rfl ?_
  refine .nil ?_
  refine .then ?_
  refine .seq ?_
  refine .seq ?_
  refine .reg rfl ?_
  refine .opp (P.mov .t1) rfl ?_
  refine .opp (P.bin .t0 .k .eql) rfl ?_
  refine .nil ?_
  refine .then ?_
  refine .cond .t0 (fun c2 => ?_) (fun c2 => ?_)
  · rw [if_pos c2] at h
    refine .seq ?_
    refine .reg rfl ?_
    refine .opp (P.fa .t0 fa_32_4 rfl) rfl ?_
    refine .op (V.ld (v := N a1.Recv) .t0 .k0 (.one isAgg3 rfl)) rfl ?_
    refine .opp (P.asg .t0) rfl ?_
    refine .nil ?_
    refine .then ?_
    refine .ret ?_
    refine .thr ?_
    subst h
    exact .finw () (.r1 rfl (.tmp .g0)) trivial (Ls.of .nil) .nil
  · rw [if_neg (ne_true_of_eq_false c2)] at h
    refine .skip ?_
    refine .then ?_
    refine .seq ?_
    refine .reg rfl ?_
    refine .opp (P.fa .t0 fa_32_3 rfl) rfl ?_
    refine .op (V.ld (v := N a1.Send) .t0 .k0 (.one isAgg3 rfl)) rfl ?_
    refine .opp (P.asg .t0) rfl ?_
    refine .nil ?_
    refine .then ?_
    refine .ret ?_
    subst h
    exact .finw () (.r1 rfl (.tmp .g0)) trivial (Ls.of .nil) .nil
attribute [irreducible] exposure_asset
noncomputable def exposure_Row_add (a0 : exposure_Row) (a1 : Int) (a2 : api_Tx) : Option (exposure_Row) :=
  Option.bind (at_ (A2_api_Wide.list a0.Out) (bandK .i64 ((exposure_asset a1 a2.Inv)) 1)) fun (x2 : api_Wide) => Option.bind (at_ (A2_api_Wide.list a0.Out) (bandK .i64 ((exposure_asset a1 a2.Inv)) 1)) fun (x6 : api_Wide) => some ((⟨a0.Router, a0.Vault, A2_api_Wide.set a0.Out (bandK .i64 ((exposure_asset a1 a2.Inv)) 1).toNat ((wide_Add x2 a2.Var.Amount).1), IntKind.i64.wrap (a0.Open + 1)⟩ : exposure_Row))
set_option maxRecDepth 20000 in
set_option maxHeartbeats 1000000 in
theorem S_exposure_Row_add (b00 : Nat) (a0 : exposure_Row) (a1 : Int) (a2 : api_Tx) (r : exposure_Row) (h : exposure_Row_add a0 a1 a2 = some r) :
    SpecF Try.prog 83 [pt b00 0, N a1, Ag (api_Tx.cs a2)] [blk b00 83 (exposure_Row.cs a0)] [] (fun _ : Unit => True) (fun z => Tu []) (fun z M => blk b00 83 (exposure_Row.cs r) ::  M) (fun z M =>  M) := by
  refine .of func83 rfl ntmps83 rfl fun w0 D0 G0 => ?_
  unfold exposure_Row_add at h
  refine .seq ?_
  refine .reg rfl ?_
  refine .opx (X.box (cs := (api_Tx.cs a2)) .t2 rfl) rfl fun b1 => ?_
  refine .nil ?_
  refine .then ?_
  refine .seq ?_
  refine .reg rfl ?_
  refine .opp (P.mov .t2) rfl ?_
  refine .opp (P.fa .g1 fa_36_5 rfl) rfl ?_
  refine .op (V.ld (v := Ag (api_Inv.cs a2.Inv)) .t0 .k0 (.agg isAgg32 sizeOf32 rfl rfl)) rfl ?_
  refine .opg (G.call call132 (.cons .t1 (.cons .t0 .nil)) (S_exposure_asset a1 a2.Inv _ rfl) .nil .nil (fun _ _ => rfl) (fun _ _ => rfl) rfl) rfl fun _ _ => ?_
  refine .opp (P.bin .t0 .k .and) rfl ?_
  refine .opp (P.asg .t0) rfl ?_
  refine .nil ?_
  refine .then ?_
  refine .seq ?_
  refine .draw 11 (.on 0 .pu (.on 1 .pu (.on 2 .pu (.on 3 .pu (.on 4 .pu (.on 5 .pu (.on 6 .pu (.on 8 .pu (.on 9 .pu (.on 15 .pu (.on 16 .pu (.on 7 .ld (.on 10 .ld (.on 11 .go (.on 12 .pu (.on 13 .pu (.on 14 .pu (.on 17 .pu (.on 18 .go .nl))))))))))))))))))) follows_mixed (.thn .body) (by kernel_rfl) ?_
  refine .dpu rfl (.n rfl) (P.mov .g2) rfl rfl ?_
  refine .dpu rfl (.n rfl) (P.mov .g1) rfl rfl ?_
  refine .dpu rfl (.n rfl) (P.mov .g4) rfl rfl ?_
  refine .dpu rfl (.n rfl) (P.mov .t3) rfl rfl ?_
  refine .dpu rfl (.n rfl) (P.nilc .t1) rfl rfl ?_
  refine .dpu rfl (.n rfl) (P.fa .t0 fa_83_2 rfl) rfl rfl ?_
  obtain ⟨x2, hx3, h⟩ := bnd_eq h
  obtain ⟨i4, hi5, hx3⟩ := at_eq hx3
  have hi5_ : (bandK .i64 ((exposure_asset a1 a2.Inv)) 1).toNat = i4 := by rw [hi5]; rfl
  refine .dpu rfl (.n rfl) (P.iad (i := i4) (off' := (9 + i4 * 4)) .t1 hi5 .t0 runUnderlying54 sizeOf27 (lt_of_get hx3) rfl) rfl rfl ?_
  refine .dpu rfl (.n rfl) (P.fa .t3 fa_36_6 rfl) rfl rfl ?_
  refine .dpu rfl (.n rfl) (P.fa .t0 fa_34_0 rfl) rfl rfl ?_
  refine .dpu rfl (.n rfl) (P.nilc .t3) rfl rfl ?_
  refine .dpu rfl (.n rfl) (P.fa .t0 fa_83_2 rfl) rfl rfl ?_
  refine .dld rfl (.n rfl) (V.ld (v := Ag (api_Wide.cs x2)) .t2 .k1 (by rcases i4 with _ | _ | _ <;> first | (obtain rfl := Option.some.inj hx3; exact LdV.agg isAgg27 sizeOf27 rfl rfl) | (cases hx3; done))) (fun _ h => h) rfl rfl ?_
  refine .dld rfl (.n rfl) (V.ld (v := Ag (api_Wide.cs a2.Var.Amount)) .t2 .k0 (.agg isAgg27 sizeOf27 rfl rfl)) (fun _ h => h) rfl rfl ?_
  refine .dgo rfl (.n rfl) (G.call call92 (.cons .t1 (.cons .t0 .nil)) (S_wide_Add x2 a2.Var.Amount _ rfl) .nil .nil (fun _ _ => rfl) (fun _ _ => rfl) rfl) (.inl rfl) fun _ _ => ?_
  refine .dpu rfl (.n rfl) (P.mov .t0) rfl rfl ?_
  refine .dpu rfl (.n rfl) (P.ext (v := Ag (api_Wide.cs ((wide_Add x2 a2.Var.Amount).1))) .g0 rfl) rfl rfl ?_
  refine .dpu0 rfl (.n rfl) (P.ext (v := Bo ((wide_Add x2 a2.Var.Amount).2)) .t1 rfl) rfl rfl ?_
  obtain ⟨x6, hx7, h⟩ := bnd_eq h
  obtain ⟨i8, hi9, hx7⟩ := at_eq hx7
  have hi9_ : (bandK .i64 ((exposure_asset a1 a2.Inv)) 1).toNat = i8 := by rw [hi9]; rfl
  refine .dpu rfl (.n rfl) (P.iad (i := i8) (off' := (9 + i8 * 4)) .t2 hi9 .t1 runUnderlying54 sizeOf27 (lt_of_get hx7) rfl) rfl rfl ?_
  refine .dgo rfl (.n rfl) (G.str (cs' := (exposure_Row.cs ⟨a0.Router, a0.Vault, A2_api_Wide.set a0.Out i8 ((wide_Add x2 a2.Var.Amount).1), a0.Open⟩)) .t1 .t0 .k1 (by rcases i8 with _ | _ | _ <;> first | (obtain rfl := Option.some.inj hx7; exact StV.mk sizeOf27 rfl rfl rfl rfl) | (cases hx7; done))) (.inl rfl) fun _ _ => ?_
  refine .conseq .k0 (q := blk b00 83 (exposure_Row.cs ⟨a0.Router, a0.Vault, A2_api_Wide.set a0.Out (bandK .i64 ((exposure_asset a1 a2.Inv)) 1).toNat ((wide_Add x2 a2.Var.Amount).1), a0.Open⟩)) (fun _ h_ => by rw [hi9_]; exact h_) ?_
  refine .dnil ?_
  refine .then ?_
  refine .reg rfl ?_
  refine .opp (P.mov .t0) rfl ?_
  refine .opp (P.nilc .g0) rfl ?_
  refine .opp (P.fa .t0 fa_83_3 rfl) rfl ?_
  refine .op (V.ld (v := N a0.Open) .t0 .k0 (.one isAgg3 rfl)) rfl ?_
  refine .opp (P.bin .t0 .k .add) rfl ?_
  refine .opp (P.nilc .t1) rfl ?_
  refine .opp (P.fa .t0 fa_83_3 rfl) rfl ?_
  refine .opg (G.str .t1 .t0 .k0 (.mk (cs' := (exposure_Row.cs ⟨a0.Router, a0.Vault, A2_api_Wide.set a0.Out (bandK .i64 ((exposure_asset a1 a2.Inv)) 1).toNat ((wide_Add x2 a2.Var.Amount).1), IntKind.i64.wrap (a0.Open + 1)⟩)) sizeOf3 rfl rfl rfl rfl)) rfl fun _ _ => ?_
  refine .nil ?_
  cases h
  exact .finwn () (.r0 rfl) trivial (Ls.of (.cons .k0 .nil)) .nil
attribute [irreducible] exposure_Row_add
noncomputable def exposure_Of (a0 : escrow_State) (a1 : List api_Event) : Option ((List exposure_Row)) :=
  Option.bind (scan_Deals a1) fun r2 => Option.bind (loopW (fun (s5 : Int × (List exposure_Row)) => if (decide (s5.1 < 4)) = true then (Option.bind (at_ (purse_Book.list a0.Vault) s5.1) fun (x15 : A2_api_Wide) => Option.bind (loopR (fun (i20 : Nat) (e23 : api_Tx) (s21 : exposure_Row) => Option.bind (Option.bind (if (decide (e23.Inv.Router = s5.1)) = true then (Option.bind (deal_Key e23.Inv) fun r45 => Option.bind (escrow_Status a0 r45) fun r47 => some (decide (r47 = 1))) else (some false)) fun (y41 : Bool) => if y41 = true then (Option.bind (exposure_Row_add s21 a0.Side e23) fun r50 => some r50) else (some s21)) fun (y34 : exposure_Row) => some (.nx y34)) 0 r2 (⟨s5.1, x15, ⟨⟨0, 0, 0, 0⟩, ⟨0, 0, 0, 0⟩⟩, 0⟩)) fun o24 => Lo.on o24 fun (s21 : exposure_Row) => grd ((s5.2.length + ([s21] : List exposure_Row).length) * 144 ≤ 140737488355328) <| some (.nx ((IntKind.i64.wrap (s5.1 + 1), (s5.2 ++ ([s21] : List exposure_Row)))))) else (some (.br (s5.1, s5.2)))) (2, [])) fun o7 => Lo.on o7 fun (s5 : Int × (List exposure_Row)) => some s5.2
set_option maxRecDepth 20000 in
set_option maxHeartbeats 1000000 in
theorem S_exposure_Of (a0 : escrow_State) (z00a : Value) (v01 : Value) (a1 : List api_Event) (r : (List exposure_Row)) (h : exposure_Of a0 a1 = some r) :
    SpecF Try.prog 36 [Ag (escrow_State.cs a0 z00a), v01] [] [rows 3 z00a (a0.Locks.map escrow_Lock.cs), rows 27 v01 (a1.map api_Event.cs)] (fun _ : Value => True) (fun z => z) (fun z M => lst 83 18 z (r.map exposure_Row.cs) ::  M) (fun z M =>  M) := by
  refine .of func36 rfl ntmps36 rfl fun w0 D0 G0 => ?_
  unfold exposure_Of at h
  refine .seq ?_
  refine .reg rfl ?_
  refine .opx (X.box (cs := (escrow_State.cs a0 z00a)) .t0 rfl) rfl fun b1 => ?_
  refine .op0 (OpP.toV (P.asg .k)) rfl ?_
  refine .nil ?_
  refine .then ?_
  refine .seq ?_
  refine .reg rfl ?_
  refine .opp (P.asg .k) rfl ?_
  refine .nil ?_
  refine .then ?_
  refine .seq ?_
  refine .reg rfl ?_
  refine .opp (P.mov .t2) rfl ?_
  obtain ⟨r2, hr3, h⟩ := bnd_eq h
  refine .opg (G.call call37 (.cons .t0 .nil) (S_scan_Deals v01 a1 r2 hr3) .nil (.cons Mm.m1 .nil) (fun _ _ => rfl) (fun _ _ => rfl) rfl) rfl fun u4 _ => ?_
  refine .opp (P.asg .t0) rfl ?_
  refine .nil ?_
  refine .then ?_
  refine .seq ?_
  refine .seq ?_
  refine .reg rfl ?_
  refine .opp (P.asg .k) rfl ?_
  refine .nil ?_
  refine .then ?_
  refine .block ?_
  refine .frz .k0 ?_
  refine .lnil 83 18 ?_
  obtain ⟨o7, ho8, h⟩ := bnd_eq h
  refine .loopW (γ := Value) (fun (s5 : Int × (List exposure_Row)) z6 => [(7, N s5.1), (6, u4), (5, z6), (2, pt b1 0)]) (fun (s5 : Int × (List exposure_Row)) z6 => [blk b1 64 (escrow_State.cs a0 z00a), lst 83 18 z6 (s5.2.map exposure_Row.cs)]) (fun (s5 : Int × (List exposure_Row)) z6 => [rows 25 u4 (r2.map api_Tx.cs), rows 3 z00a (a0.Locks.map escrow_Lock.cs), rows 27 v01 (a1.map api_Event.cs)]) nilSl ho8 (.cons Mm.m0 (.cons Mm.m1 (.cons Mm.m2 (.cons Mm.m3 .nil)))) (.of (.cons .k1 (.cons .k0 .nil))) (.cons Mm.m0 (.cons Mm.m1 (.cons Mm.m2 .nil))) (fun n13 s5 z6 hr11 => ?_)
  obtain ⟨ct12, hc9, hn10⟩ := loopK_at hr11
  refine .seq ?_
  refine .seq ?_
  refine .reg rfl ?_
  refine .opp (P.mov .g0) rfl ?_
  refine .opp (P.bin .t0 .k .lss) rfl ?_
  refine .nil ?_
  refine .then ?_
  refine .cond .t0 (fun c14 => ?_) (fun c14 => ?_)
  · rw [if_pos c14] at hc9
    refine .skip ?_
    refine .then ?_
    refine .seq ?_
    refine .block ?_
    refine .seq ?_
    refine .reg rfl ?_
    refine .opp (P.mov .g0) rfl ?_
    refine .opp (P.mov .g1) rfl ?_
    refine .opp (P.fa .g5 fa_64_3 rfl) rfl ?_
    obtain ⟨x15, hx16, hc9⟩ := bnd_eq hc9
    obtain ⟨i17, hi18, hx16⟩ := at_eq hx16
    have hi18_ : (s5.1).toNat = i17 := by rw [hi18]; rfl
    refine .opp (P.iad (i := i17) (off' := (66 + i17 * 8)) .t1 hi18 .t0 runUnderlying60 sizeOf54 (lt_of_get hx16) rfl) rfl ?_
    refine .op (V.ld (v := Ag (A2_api_Wide.cs x15)) .t0 .k0 (by rcases i17 with _ | _ | _ | _ | _ | _ | _ | _ | _ <;> first | (obtain rfl := Option.some.inj hx16; exact LdV.agg isAgg54 sizeOf54 rfl rfl) | (cases hx16; done))) rfl ?_
    refine .opp (P.bld (v := Ag (exposure_Row.cs ⟨s5.1, x15, ⟨⟨0, 0, 0, 0⟩, ⟨0, 0, 0, 0⟩⟩, 0⟩)) (.cons .t1 (.cons .t0 .nil)) (bld_run zeroValue83 runUnderlying83 pl_83 (by kernel_rfl))) rfl ?_
    refine .opx (X.alc (cs := (exposure_Row.cs ⟨0, ⟨⟨0, 0, 0, 0⟩, ⟨0, 0, 0, 0⟩⟩, ⟨⟨0, 0, 0, 0⟩, ⟨0, 0, 0, 0⟩⟩, 0⟩)) zeroValue83 rfl) rfl fun b19 => ?_
    refine .opg (G.str .t1 .g0 .k0 (.mk (cs' := (exposure_Row.cs ⟨s5.1, x15, ⟨⟨0, 0, 0, 0⟩, ⟨0, 0, 0, 0⟩⟩, 0⟩)) sizeOf83 rfl rfl rfl rfl)) rfl fun _ _ => ?_
    refine .nil ?_
    refine .then ?_
    refine .seq ?_
    refine .seq ?_
    refine .reg rfl ?_
    refine .opp (P.mov .g2) rfl ?_
    refine .op (V.lnr (n := r2.length) .g0 Mm.m0 map_len runUnderlying80) rfl ?_
    refine .opp (P.mov .k) rfl ?_
    refine .nil ?_
    refine .then ?_
    refine .block ?_
    obtain ⟨o24, ho25, hc9⟩ := bnd_eq hc9
    refine .lenq Mm.m0 fun hl31 => ?_
    rw [map_len] at hl31
    refine .loopR (γ := Unit) (fun i20 (s21 : exposure_Row) z22 => [(25, N ((i20 : Int))), (24, N ((r2.length : Int))), (23, u4), (8, pt b19 0), (7, N s5.1), (6, u4), (5, z6), (2, pt b1 0)]) (fun (s21 : exposure_Row) z22 => [blk b19 83 (exposure_Row.cs s21), blk b1 64 (escrow_State.cs a0 z00a), lst 83 18 z6 (s5.2.map exposure_Row.cs)]) (fun (s21 : exposure_Row) z22 => [rows 25 u4 (r2.map api_Tx.cs), rows 3 z00a (a0.Locks.map escrow_Lock.cs), rows 27 v01 (a1.map api_Event.cs)]) () ho25 (.cons Mm.m0 (.cons Mm.m1 (.cons Mm.m2 (.cons Mm.m3 (.cons Mm.m4 (.cons Mm.m5 (.cons Mm.m6 (.cons Mm.m7 .nil)))))))) (.of (.cons .k0 (.cons .k0 (.cons .k0 .nil)))) (.cons Mm.m0 (.cons Mm.m1 (.cons Mm.m2 .nil))) (fun i20 s21 z22 hi32 hr28 => ?_)
    refine .seq ?_
    refine .reg rfl ?_
    refine .opp (P.bin (v := Bo (decide ((i20 : Int) < (r2.length : Nat)))) .g0 .g1 .lss) rfl ?_
    refine .nil ?_
    refine .then ?_
    refine .seq ?_
    refine .cond .t0 (fun c33 => ?_) (fun c33 => ?_)
    · obtain ⟨e23, hx30⟩ := get_of c33
      obtain ⟨ct29, hc26, hn27⟩ := loopR_at hx30 hr28
      refine .skip ?_
      refine .then ?_
      obtain ⟨y34, hj36, hc26⟩ := bnd_eq hc26
      refine .cutx (γ := Unit) (E1 := fun z35 => [(25, N ((i20 : Int))), (24, N ((r2.length : Int))), (23, u4), (8, pt b19 0), (7, N s5.1), (6, u4), (5, z6), (2, pt b1 0)]) (L1 := fun z35 => [blk b19 83 (exposure_Row.cs y34), blk b1 64 (escrow_State.cs a0 z00a), lst 83 18 z6 (s5.2.map exposure_Row.cs)]) (R1 := fun z35 => [rows 25 u4 (r2.map api_Tx.cs), rows 3 z00a (a0.Locks.map escrow_Lock.cs), rows 27 v01 (a1.map api_Event.cs)]) ?_ (fun z35 => ?_)
      · clear hc26
        refine .block ?_
        refine .seq ?_
        refine .reg rfl ?_
        refine .ixq Mm.m0 (map_get hx30) fun p37 q38 hq39 => ?_
        refine .opp (P.ixi (i := i20) .g0 rfl .g2 hq39 runUnderlying80 sizeOf36) rfl ?_
        refine .op (V.ldx0 (u := Ag (api_Tx.cs e23)) .t0 hq39 Mm.m0 (map_get hx30) (.agg isAgg36 sizeOf36 rfl rfl)) rfl ?_
        refine .opx (X.alc (cs := (api_Tx.cs ⟨0, 0, 0, 0, ⟨0, 0, 0, 0⟩, ⟨0, ⟨#[]⟩, 0, 0, 0, 0, ⟨#[]⟩⟩, ⟨⟨0, 0, 0, 0⟩, 0⟩, ⟨0, 0, 0, 0⟩, ⟨#[]⟩⟩)) zeroValue36 rfl) rfl fun b40 => ?_
        refine .opg (G.str .t1 .g0 .k0 (.mk (cs' := (api_Tx.cs e23)) sizeOf36 rfl rfl rfl rfl)) rfl fun _ _ => ?_
        refine .nil ?_
        refine .then ?_
        obtain ⟨y41, hj43, hj36⟩ := bnd_eq hj36
        refine .cutx (γ := Unit) (E1 := fun z42 => [(41, Bo y41), (10, pt b40 0), (25, N ((i20 : Int))), (24, N ((r2.length : Int))), (23, u4), (8, pt b19 0), (7, N s5.1), (6, u4), (5, z6), (2, pt b1 0)]) (L1 := fun z42 => [blk b40 36 (api_Tx.cs e23), blk b19 83 (exposure_Row.cs s21), blk b1 64 (escrow_State.cs a0 z00a), lst 83 18 z6 (s5.2.map exposure_Row.cs)]) (R1 := fun z42 => [rows 25 u4 (r2.map api_Tx.cs), rows 3 z00a (a0.Locks.map escrow_Lock.cs), rows 27 v01 (a1.map api_Event.cs)]) ?_ (fun z42 => ?_)
        · clear hj36
          refine .draw 13 (.on 0 .pu (.on 1 .pu (.on 3 .pu (.on 2 .ld (.on 4 .pu (.on 5 .pu (.on 7 .pu (.on 6 .ld (.on 8 .ld (.on 9 .go (.on 10 .go (.on 11 .pu (.on 12 .pu .nl))))))))))))) follows_mixed (.thn (.inb (.thn (.thn (.inb (.thn (.inb (.thn (.thn (.inb (.thn .body))))))))))) (by kernel_rfl) ?_
          refine .dpu rfl (.n rfl) (P.fa .g0 fa_36_5 rfl) rfl rfl ?_
          refine .dpu rfl (.n rfl) (P.fa .t0 fa_32_2 rfl) rfl rfl ?_
          refine .dpu rfl (.n rfl) (P.mov .g6) rfl rfl ?_
          refine .dld rfl (.n rfl) (V.ld (v := N e23.Inv.Router) .t1 .k0 (.one isAgg3 rfl)) (fun _ h => h) rfl rfl ?_
          refine .dpu rfl (.n rfl) (P.bin .t0 .t0 .eql) rfl rfl ?_
          refine .dpu rfl (.n rfl) (P.mov .t0) rfl rfl ?_
          refine .split .k0 (fun c44 => ?_) (fun c44 => ?_)
          · rw [if_pos c44] at hj43
            refine .dpu rfl (.g rfl rfl .g0 rfl) (P.fa .g1 fa_36_5 rfl) rfl rfl ?_
            refine .dld rfl (.g rfl rfl .g1 rfl) (V.ld (v := Ag (escrow_State.cs a0 z00a)) .g10 .k2 (.agg isAgg64 sizeOf64 rfl rfl)) (fun _ h => h) rfl rfl ?_
            refine .dld rfl (.g rfl rfl .g2 rfl) (V.ld (v := Ag (api_Inv.cs e23.Inv)) .t1 .k0 (.agg isAgg32 sizeOf32 rfl rfl)) (fun _ h => h) rfl rfl ?_
            obtain ⟨r45, hr46, hj43⟩ := bnd_eq hj43
            refine .dgo rfl (.g rfl rfl .g2 rfl) (G.call call39 (.cons .t0 .nil) (S_deal_Key e23.Inv r45 hr46) .nil .nil (fun _ _ => rfl) (fun _ _ => rfl) rfl) (.inr fun _ _ _ h => h) fun _ _ => ?_
            obtain ⟨r47, hr48, hj43⟩ := bnd_eq hj43
            refine .dgo rfl (.g rfl rfl .g2 rfl) (G.call call38 (.cons .t1 (.cons .t0 .nil)) (S_escrow_Status a0 z00a r45 r47 hr48) .nil (.cons Mm.m1 .nil) (fun _ _ => rfl) (fun _ _ => rfl) rfl) (.inr fun _ _ _ h => h) fun _ _ => ?_
            refine .dpu rfl (.g rfl rfl .g1 rfl) (P.bin .t0 .k .eql) rfl rfl ?_
            refine .dpu rfl (.n rfl) (P.pickT .t1 .t0) rfl rfl ?_
            refine .dnil ?_
            cases hj43
            exact .stj () (.cons Mm.m0 (.cons Mm.m1 (.cons Mm.m2 (.cons Mm.m3 (.cons Mm.m4 (.cons Mm.m5 (.cons Mm.m6 (.cons Mm.m7 (.cons Mm.m8 (.cons Mm.m9 .nil)))))))))) (.of (.cons .k0 (.cons .k0 (.cons .k0 (.cons .k0 .nil))))) (.cons Mm.m0 (.cons Mm.m1 (.cons Mm.m2 .nil)))
          · rw [if_neg (ne_true_of_eq_false c44)] at hj43
            refine .dsk rfl (.g rfl rfl .g0 rfl) rfl rfl ?_
            refine .dskl rfl (.g rfl rfl .g0 rfl) (fun _ h => h) rfl rfl ?_
            refine .dskl rfl (.g rfl rfl .g0 rfl) (fun _ h => h) rfl rfl ?_
            refine .dskg rfl (.g rfl rfl .g0 rfl) (.inr fun _ h => h) rfl rfl ?_
            refine .dskg rfl (.g rfl rfl .g0 rfl) (.inr fun _ h => h) rfl rfl ?_
            refine .dsk rfl (.g rfl rfl .g0 rfl) rfl rfl ?_
            refine .dpu rfl (.n rfl) (P.pickF .t0 .k) rfl rfl ?_
            refine .dnil ?_
            cases hj43
            exact .stj () (.cons Mm.m0 (.cons Mm.m1 (.cons Mm.m2 (.cons Mm.m3 (.cons Mm.m4 (.cons Mm.m5 (.cons Mm.m6 (.cons Mm.m7 (.cons Mm.m8 (.cons Mm.m9 .nil)))))))))) (.of (.cons .k0 (.cons .k0 (.cons .k0 (.cons .k0 .nil))))) (.cons Mm.m0 (.cons Mm.m1 (.cons Mm.m2 .nil)))
        · clear hj43
          refine .cond .t0 (fun c49 => ?_) (fun c49 => ?_)
          · rw [if_pos c49] at hj36
            refine .reg rfl ?_
            refine .opp (P.fa .g8 fa_64_0 rfl) rfl ?_
            refine .op (V.ld (v := N a0.Side) .t0 .k2 (.one isAgg3 rfl)) rfl ?_
            refine .op (V.ld (v := Ag (api_Tx.cs e23)) .t1 .k0 (.agg isAgg36 sizeOf36 rfl rfl)) rfl ?_
            obtain ⟨r50, hr51, hj36⟩ := bnd_eq hj36
            refine .opg (G.call call83 (.cons .g5 (.cons .t1 (.cons .t0 .nil))) (S_exposure_Row_add b19 s21 a0.Side e23 r50 hr51) (.cons .k1 .nil) .nil (fun _ _ => rfl) (fun _ _ => rfl) rfl) rfl fun _ _ => ?_
            refine .drop .k0 ?_
            refine .nil ?_
            refine .inn ?_
            cases hj36
            exact .stj () (.cons Mm.m0 (.cons Mm.m1 (.cons Mm.m2 (.cons Mm.m3 (.cons Mm.m4 (.cons Mm.m5 (.cons Mm.m6 (.cons Mm.m7 .nil)))))))) (.of (.cons .k0 (.cons .k1 (.cons .k1 .nil)))) (.cons Mm.m0 (.cons Mm.m1 (.cons Mm.m2 .nil)))
          · rw [if_neg (ne_true_of_eq_false c49)] at hj36
            refine .skip ?_
            refine .inn ?_
            cases hj36
            exact .stj () (.cons Mm.m1 (.cons Mm.m2 (.cons Mm.m3 (.cons Mm.m4 (.cons Mm.m5 (.cons Mm.m6 (.cons Mm.m7 (.cons Mm.m8 .nil)))))))) (.of (.cons .k1 (.cons .k1 (.cons .k1 .nil)))) (.cons Mm.m0 (.cons Mm.m1 (.cons Mm.m2 .nil)))
      · clear hj36
        refine .reg rfl ?_
        refine .opp (P.bin .g0 .k (.addc (inc_ok (lt_of_get hx30) hl31))) rfl ?_
        refine .drop .k1 ?_
        refine .opp (P.mov .t0) rfl ?_
        refine .nil ?_
        cases hc26
        exact .rdR y34 () hn27 (lt_of_get hx30) (.cons Mm.m0 (.cons Mm.m1 (.cons Mm.m2 (.cons Mm.m3 (.cons Mm.m4 (.cons Mm.m5 (.cons Mm.m6 (.cons Mm.m7 .nil)))))))) (.of (.cons .k0 (.cons .k0 (.cons .k0 .nil)))) (.cons Mm.m0 (.cons Mm.m1 (.cons Mm.m2 .nil)))
    · obtain rfl := loopR_end (le_of_not c33) hr28
      have hc9 := dn_on hc9
      refine .exit ?_
      refine .thx ?_
      refine .thx ?_
      refine .inb ?_
      refine .then ?_
      refine .reg rfl ?_
      refine .opp (P.mov .g6) rfl ?_
      refine .op (V.ld (v := Ag (exposure_Row.cs s21)) .t4 .k0 (.agg isAgg83 sizeOf83 rfl rfl)) rfl ?_
      refine .opg (G.bsl (cs := (exposure_Row.cs s21)) .t0 runUnderlying78 sizeOf83 zeroValue83 rfl rfl rfl rfl rfl) rfl fun u52 _ => ?_
      obtain ⟨hb54, hc9⟩ := grd_eq hc9
      refine .opg (G.app (by_ := 144) .t1 .t0 .k3 (.inr (.inr ⟨_, Mm.m0⟩)) runUnderlying78 runUnderlying78 sizeOf83 typeInfo83 rfl rfl zeroValue83 rfl rfl (by simpa using hb54) rfl) rfl fun u53 _ => ?_
      refine .conseq .k0 (q := lst 83 18 u53 (((s5.2 ++ ([s21] : List exposure_Row))).map exposure_Row.cs)) (fun _ hh => by simpa [List.map_append] using hh) ?_
      refine .drop .k6 ?_
      refine .opp (P.asg .t0) rfl ?_
      refine .nil ?_
      refine .inn ?_
      refine .then ?_
      refine .reg rfl ?_
      refine .opp (P.mov .g4) rfl ?_
      refine .opp (P.bin .t0 .k .add) rfl ?_
      refine .drop .k5 ?_
      refine .opp (P.asg .t0) rfl ?_
      refine .nil ?_
      cases hc9
      obtain ⟨m55, hm56, hn10⟩ := hn10
      exact .rdW ((IntKind.i64.wrap (s5.1 + 1), (s5.2 ++ ([s21] : List exposure_Row)))) u53 hm56 hn10 (.cons Mm.m0 (.cons Mm.m5 (.cons Mm.m1 (.cons Mm.m6 .nil)))) (.of (.cons .k3 (.cons .k0 .nil))) (.cons Mm.m0 (.cons Mm.m1 (.cons Mm.m2 .nil)))
  · rw [if_neg (ne_true_of_eq_false c14)] at hc9
    refine .exit ?_
    refine .thx ?_
    cases hc9
    refine .told (γ := Value) h hn10 (fun (s5 : Int × (List exposure_Row)) z6 => [(7, N s5.1), (6, u4), (5, z6), (2, pt b1 0)]) (fun (s5 : Int × (List exposure_Row)) z6 => [blk b1 64 (escrow_State.cs a0 z00a), lst 83 18 z6 (s5.2.map exposure_Row.cs)]) (fun (s5 : Int × (List exposure_Row)) z6 => [rows 25 u4 (r2.map api_Tx.cs), rows 3 z00a (a0.Locks.map escrow_Lock.cs), rows 27 v01 (a1.map api_Event.cs)]) z6 (.cons Mm.m0 (.cons Mm.m1 (.cons Mm.m2 (.cons Mm.m3 .nil)))) (.of (.cons .k0 (.cons .k0 .nil))) (.cons Mm.m0 (.cons Mm.m1 (.cons Mm.m2 .nil))) (fun s5 z6 h' => ?_)
    replace h := h'
    refine .thx ?_
    refine .inb ?_
    refine .then ?_
    refine .seq ?_
    refine .reg rfl ?_
    refine .opp (P.mov .t2) rfl ?_
    refine .opp (P.asg .t0) rfl ?_
    refine .nil ?_
    refine .then ?_
    refine .ret ?_
    cases h
    exact .finw z6 (.r1 rfl (.tmp .g0)) trivial (Ls.of (.cons .k1 .nil)) .nil
attribute [irreducible] exposure_Of
noncomputable def exposure_known (a0 : Int) : Bool :=
  thn (if (decide (a0 ≥ 0)) = true then (decide (a0 < 2)) else false) fun (y1 : Bool) => y1
set_option maxRecDepth 20000 in
set_option maxHeartbeats 1000000 in
theorem S_exposure_known (a0 : Int) (r : Bool) (h : exposure_known a0 = r) :
    SpecF Try.prog 90 [N a0] [] [] (fun _ : Unit => True) (fun z => Bo r) (fun z M =>  M) (fun z M =>  M) := by
  refine .of func90 rfl ntmps90 rfl fun w0 D0 G0 => ?_
  unfold exposure_known at h
  refine .seq ?_
  refine .reg rfl ?_
  refine .op0 (OpP.toV (P.asg .k)) rfl ?_
  refine .nil ?_
  refine .then ?_
  obtain ⟨y1, hj3, h⟩ := thn_eq h
  refine .cutx (γ := Unit) (E1 := fun z2 => [(2, Bo y1)]) (L1 := fun z2 => []) (R1 := fun z2 => []) ?_ (fun z2 => ?_)
  · clear h
    refine .reg rfl ?_
    refine .opp (P.mov .g0) rfl ?_
    refine .opp (P.bin .t0 .k .geq) rfl ?_
    refine .opp (P.mov .t0) rfl ?_
    refine .split .k0 (fun c4 => ?_) (fun c4 => ?_)
    · rw [if_pos c4] at hj3
      refine .gyes rfl .g0 ?_
      refine .opp (P.mov .t1) rfl ?_
      refine .gyes rfl .g1 ?_
      refine .opp (P.bin .t0 .k .lss) rfl ?_
      refine .opp (P.pickT .t1 .t0) rfl ?_
      refine .opp (P.asg .t0) rfl ?_
      refine .nil ?_
      subst hj3
      exact .stj () (.cons Mm.m0 .nil) (.of .nil) .nil
    · rw [if_neg (ne_true_of_eq_false c4)] at hj3
      refine .gno rfl .g0 rfl rfl ?_
      refine .gno rfl .g0 rfl rfl ?_
      refine .opp (P.pickF .t0 .k) rfl ?_
      refine .opp (P.asg .t0) rfl ?_
      refine .nil ?_
      subst hj3
      exact .stj () (.cons Mm.m0 .nil) (.of .nil) .nil
  · clear hj3
    refine .ret ?_
    subst h
    exact .finw () (.r1 rfl (.tmp .g0)) trivial (Ls.of .nil) .nil
attribute [irreducible] exposure_known
noncomputable def slices_Backward_i139  : Unit :=
  ()
set_option maxRecDepth 20000 in
set_option maxHeartbeats 1000000 in
theorem S_slices_Backward_i139 (v00 : Value) (hv00 : IsSl v00) (r : Unit) (h : slices_Backward_i139  = r) :
    SpecF Try.prog 139 [v00] [] [] (fun _ : Nat => True) (fun z => fnv 176 [pt z 0]) (fun z M => blk z 216 [v00] ::  M) (fun z M =>  M) := by
  refine .of func139 rfl ntmps139 rfl fun w0 D0 G0 => ?_
  unfold slices_Backward_i139 at h
  refine .seq ?_
  refine .reg rfl ?_
  refine .opx (X.box (cs := [v00]) .t0 hv00.cells) rfl fun b1 => ?_
  refine .op0 (OpP.toV (P.asg .k)) rfl ?_
  refine .nil ?_
  refine .then ?_
  refine .seq ?_
  refine .reg rfl ?_
  refine .opp (P.mkf (.cons .t0 .nil)) rfl ?_
  refine .opp (P.asg .t0) rfl ?_
  refine .nil ?_
  refine .then ?_
  refine .ret ?_
  subst h
  exact .finw b1 (.r1 rfl (.tmp .g0)) trivial (Ls.of (.cons .k0 .nil)) .nil
attribute [irreducible] slices_Backward_i139
noncomputable def wide_Cmp (a0 : api_Wide) (a1 : api_Wide) : Option (Int) :=
  Option.bind (loopW (fun (s11 : Int) => if (decide (s11 ≥ 0)) = true then (Option.bind (at_ (api_Wide.list a0) s11) fun (x21 : UInt64) => Option.bind (at_ (api_Wide.list a1) s11) fun (x27 : UInt64) => if (decide (x21 < x27)) = true then (Option.map Ct.rt (some (-1))) else (Option.bind (at_ (api_Wide.list a1) s11) fun (x34 : UInt64) => if (decide (x21 > x34)) = true then (Option.map Ct.rt (some 1)) else (some (.nx (IntKind.i64.wrap (s11 - 1)))))) else (some (.br s11))) 3) fun o13 => Lo.on o13 fun (s11 : Int) => some 0
set_option maxRecDepth 20000 in
set_option maxHeartbeats 1000000 in
theorem S_wide_Cmp (a0 : api_Wide) (a1 : api_Wide) (r : Int) (h : wide_Cmp a0 a1 = some r) :
    SpecF Try.prog 91 [Ag (api_Wide.cs a0), Ag (api_Wide.cs a1)] [] [] (fun _ : Unit => True) (fun z => N r) (fun z M =>  M) (fun z M =>  M) := by
  refine .of func91 rfl ntmps91 rfl fun w0 D0 G0 => ?_
  unfold wide_Cmp at h
  refine .seq ?_
  refine .reg rfl ?_
  refine .opx (X.box (cs := (api_Wide.cs a0)) .t0 rfl) rfl fun b1 => ?_
  refine .opx (X.box (cs := (api_Wide.cs a1)) .t1 rfl) rfl fun b2 => ?_
  refine .opx (X.alc (cs := [N 0]) zeroValue3 rfl) rfl fun b3 => ?_
  refine .nil ?_
  refine .then ?_
  refine .seq ?_
  refine .seq ?_
  refine .reg rfl ?_
  refine .opp (P.sla .t2 runUnderlying27 sizeOf25) rfl ?_
  refine .opg (G.call call139 (.cons .t0 .nil) (S_slices_Backward_i139 ((.slice (some ⟨b1, 0, none⟩) 4 4)) .mk _ rfl) .nil .nil (fun _ _ => rfl) (fun _ _ => rfl) rfl) rfl fun b4 _ => ?_
  refine .nil ?_
  refine .then ?_
  refine .block ?_
  refine .rangeF rfl .t0 call176 func176 rfl ntmps176 rfl fun a5 O6 D7 l8 ha9 hO10 => ?_
  refine .seq ?_
  refine .reg rfl ?_
  refine .op (V.ld (v := (.slice (some ⟨b1, 0, none⟩) 4 4)) .g1 .k2 (.one isAgg216 rfl)) rfl ?_
  refine .opp (P.lena .t0 runUnderlying216) rfl ?_
  refine .opp (P.bin (v := N 3) .t0 .k (.subc (by decide))) rfl ?_
  refine .opp (P.asg .t0) rfl ?_
  refine .nil ?_
  refine .then ?_
  refine .block ?_
  obtain ⟨o13, ho14, h⟩ := bnd_eq h
  refine .loopW (γ := Unit) (fun (s11 : Int) z12 => [(3, N s11), (0, yv l8), (1, pt b4 0)]) (fun (s11 : Int) z12 => [blk b4 216 [(.slice (some ⟨b1, 0, none⟩) 4 4)], blk b3 3 [N 0], blk b2 27 (api_Wide.cs a1), blk b1 27 (api_Wide.cs a0), obj l8 (O6 .ready none), obj D7 (.deferred (some []))]) (fun (s11 : Int) z12 => []) () ho14 (.cons Mm.m0 (.cons Mm.m1 (.cons Mm.m2 .nil))) (.of (.cons .k2 (.cons .k2 (.cons .k2 (.cons .k2 (.cons .k0 (.cons .k0 .nil))))))) .nil (fun n19 s11 z12 hr17 => ?_)
  obtain ⟨ct18, hc15, hn16⟩ := loopK_at hr17
  refine .seq ?_
  refine .seq ?_
  refine .reg rfl ?_
  refine .opp (P.mov .g0) rfl ?_
  refine .opp (P.bin .t0 .k .geq) rfl ?_
  refine .nil ?_
  refine .then ?_
  refine .cond .t0 (fun c20 => ?_) (fun c20 => ?_)
  · rw [if_pos c20] at hc15
    refine .skip ?_
    refine .then ?_
    refine .seq ?_
    refine .block ?_
    refine .seq ?_
    refine .regY 6 rfl ?_
    refine .opp (P.mov .g1) rfl ?_
    refine .opp (P.mov .g1) rfl ?_
    refine .op (V.ld (v := (.slice (some ⟨b1, 0, none⟩) 4 4)) .g4 .k0 (.one isAgg216 rfl)) rfl ?_
    refine .opp (P.mov .g3) rfl ?_
    obtain ⟨x21, hx22, hc15⟩ := bnd_eq hc15
    obtain ⟨i23, hi24, hx22⟩ := at_eq hx22
    have hi24_ : (s11).toNat = i23 := by rw [hi24]; rfl
    refine .opp (P.ixa (i := i23) (off' := (0 + i23 * 1)) .t0 hi24 .t0 runUnderlying216 sizeOf25 (lt_of_get hx22) rfl) rfl ?_
    refine .op (V.ld (v := U x21) .t0 .k3 (by rcases i23 with _ | _ | _ | _ | _ <;> first | (obtain rfl := Option.some.inj hx22; exact LdV.one isAgg25 rfl) | (cases hx22; done))) rfl ?_
    refine .nil ?_
    refine .then ?_
    refine .yield (ps := [9, 10]) .t2 (.cons .t1 (.cons .t0 .nil)) hO10 .k4 rfl rfl (by decide) fun a25 ha26 => ?_
    refine .seq ?_
    refine .reg rfl ?_
    refine .opp (P.asg .t0) rfl ?_
    refine .nil ?_
    refine .then ?_
    refine .reg rfl ?_
    refine .opp (P.asg .t1) rfl ?_
    refine .nil ?_
    refine .then ?_
    refine .bg rfl hO10 .k0 ?_
    refine .block ?_
    refine .seq ?_
    refine .seq ?_
    refine .reg rfl ?_
    refine .opp (P.mov .g0) rfl ?_
    refine .opp (P.mov .g2) rfl ?_
    obtain ⟨x27, hx28, hc15⟩ := bnd_eq hc15
    obtain ⟨i29, hi30, hx28⟩ := at_eq hx28
    have hi30_ : (s11).toNat = i29 := by rw [hi30]; rfl
    refine .opp (P.iad (i := i29) (off' := (0 + i29 * 1)) .t0 hi30 .g4 runUnderlying27 sizeOf25 (lt_of_get hx28) rfl) rfl ?_
    refine .op (V.ld (v := U x27) .t0 .k3 (by rcases i29 with _ | _ | _ | _ | _ <;> first | (obtain rfl := Option.some.inj hx28; exact LdV.one isAgg25 rfl) | (cases hx28; done))) rfl ?_
    refine .opp (P.bin .t1 .t0 (BinV.lssU (x := x21) (y := x27))) rfl ?_
    refine .nil ?_
    refine .then ?_
    refine .cond .t0 (fun c31 => ?_) (fun c31 => ?_)
    · rw [if_pos c31] at hc15
      refine .seq ?_
      refine .reg rfl ?_
      refine .opg (G.str .k .g2 .k2 (.mk (cs' := [N ((-1))]) sizeOf3 rfl rfl rfl rfl)) rfl fun _ _ => ?_
      refine .nil ?_
      refine .then ?_
      refine .ret ?_
      refine .thr ?_
      refine .inr ?_
      refine .rret rfl ⟨rfl, rfl, rfl⟩ ha26 hO10 .k1 rfl ?_
      refine .inL rfl ?_
      refine .opp (P.not .t0) rfl ?_
      refine .nil ?_
      refine .then ?_
      refine .condT .t0 ?_
      refine .ret ?_
      refine .inr ?_
      refine .thr ?_
      obtain ⟨x32, hx33, rfl⟩ := map_rt hc15
      obtain rfl := hn16
      obtain rfl := rt_on h
      refine .thr ?_
      refine .inr ?_
      refine .rjump ha9 hO10 .k0 rfl ?_
      refine .ret ?_
      refine .inr ?_
      refine .thr ?_
      cases hx33
      exact .finm () .k4 (.r1 rfl (.cell .g0 .k0 (.one isAgg3 rfl))) trivial (Ls.of .nil) .nil
    · rw [if_neg (ne_true_of_eq_false c31)] at hc15
      refine .skip ?_
      refine .then ?_
      refine .seq ?_
      refine .reg rfl ?_
      refine .opp (P.mov .t0) rfl ?_
      refine .opp (P.mov .t1) rfl ?_
      obtain ⟨x34, hx35, hc15⟩ := bnd_eq hc15
      obtain ⟨i36, hi37, hx35⟩ := at_eq hx35
      have hi37_ : (s11).toNat = i36 := by rw [hi37]; rfl
      refine .opp (P.iad (i := i36) (off' := (0 + i36 * 1)) .t0 hi37 .t2 runUnderlying27 sizeOf25 (lt_of_get hx35) rfl) rfl ?_
      refine .op (V.ld (v := U x34) .t0 .k3 (by rcases i36 with _ | _ | _ | _ | _ <;> first | (obtain rfl := Option.some.inj hx35; exact LdV.one isAgg25 rfl) | (cases hx35; done))) rfl ?_
      refine .opp (P.bin .t1 .t0 (BinV.gtrU (x := x21) (y := x34))) rfl ?_
      refine .nil ?_
      refine .then ?_
      refine .cond .t0 (fun c38 => ?_) (fun c38 => ?_)
      · rw [if_pos c38] at hc15
        refine .seq ?_
        refine .reg rfl ?_
        refine .opg (G.str .k .g0 .k2 (.mk (cs' := [N 1]) sizeOf3 rfl rfl rfl rfl)) rfl fun _ _ => ?_
        refine .nil ?_
        refine .then ?_
        refine .ret ?_
        refine .inr ?_
        refine .rret rfl ⟨rfl, rfl, rfl⟩ ha26 hO10 .k1 rfl ?_
        refine .inL rfl ?_
        refine .opp (P.not .t0) rfl ?_
        refine .nil ?_
        refine .then ?_
        refine .condT .t0 ?_
        refine .ret ?_
        refine .inr ?_
        refine .thr ?_
        obtain ⟨x39, hx40, rfl⟩ := map_rt hc15
        obtain rfl := hn16
        obtain rfl := rt_on h
        refine .thr ?_
        refine .inr ?_
        refine .rjump ha9 hO10 .k0 rfl ?_
        refine .ret ?_
        refine .inr ?_
        refine .thr ?_
        cases hx40
        exact .finm () .k4 (.r1 rfl (.cell .g0 .k0 (.one isAgg3 rfl))) trivial (Ls.of .nil) .nil
      · rw [if_neg (ne_true_of_eq_false c38)] at hc15
        refine .skip ?_
        refine .inn ?_
        refine .rnorm rfl ⟨rfl, rfl, rfl⟩ ha26 hO10 .k0 rfl ?_
        refine .inL rfl ?_
        refine .opp (P.not .t0) rfl ?_
        refine .nil ?_
        refine .then ?_
        refine .condF .t0 ?_
        refine .skip ?_
        refine .inn ?_
        refine .then ?_
        refine .reg rfl ?_
        refine .opp (P.mov .g0) rfl ?_
        refine .opp (P.bin .t0 .k .sub) rfl ?_
        refine .drop .k1 ?_
        refine .opp (P.asg .t0) rfl ?_
        refine .nil ?_
        cases hc15
        obtain ⟨m41, hm42, hn16⟩ := hn16
        exact .rdW (IntKind.i64.wrap (s11 - 1)) () hm42 hn16 (.cons Mm.m0 (.cons Mm.m1 (.cons Mm.m2 .nil))) (.of (.cons .k1 (.cons .k1 (.cons .k1 (.cons .k1 (.cons .k0 (.cons .k0 .nil))))))) .nil
  · rw [if_neg (ne_true_of_eq_false c20)] at hc15
    refine .exit ?_
    refine .thx ?_
    cases hc15
    refine .told (γ := Unit) h hn16 (fun (s11 : Int) _ => [(3, N s11), (0, yv l8), (1, pt b4 0)]) (fun (s11 : Int) _ => [blk b4 216 [(.slice (some ⟨b1, 0, none⟩) 4 4)], blk b3 3 [N 0], blk b2 27 (api_Wide.cs a1), blk b1 27 (api_Wide.cs a0), obj l8 (O6 .ready none), obj D7 (.deferred (some []))]) (fun (s11 : Int) _ => []) () (.cons Mm.m0 (.cons Mm.m1 (.cons Mm.m2 .nil))) (.of (.cons .k0 (.cons .k0 (.cons .k0 (.cons .k0 (.cons .k0 (.cons .k0 .nil))))))) .nil (fun s11 _ h' => ?_)
    replace h := h'
    refine .thx ?_
    refine .inb ?_
    refine .rfinn ha9 hO10 .k4 rfl ?_
    refine .inn ?_
    refine .then ?_
    refine .seq ?_
    refine .reg rfl ?_
    refine .opg (G.str .k .g0 .k1 (.mk (cs' := [N 0]) sizeOf3 rfl rfl rfl rfl)) rfl fun _ _ => ?_
    refine .nil ?_
    refine .then ?_
    refine .ret ?_
    cases h
    exact .finm () .k4 (.r1 rfl (.cell .g0 .k0 (.one isAgg3 rfl))) trivial (Ls.of .nil) .nil
attribute [irreducible] wide_Cmp
noncomputable def exposure_Widest (a0 : List exposure_Row) (a1 : Int) : Option (Int) :=
  thn (if (decide (((a0.length : Int)) = 0)) = true then true else (!((exposure_known a1)))) fun (y1 : Bool) => if y1 = true then (some (-1)) else (Option.bind (at_ a0 0) fun (x9 : exposure_Row) => grd (okS a0.length (some 1) none none) <| Option.bind (loopR (fun (i18 : Nat) (e21 : exposure_Row) (s19 : exposure_Row) => Option.bind (Option.bind (at_ (A2_api_Wide.list e21.Out) a1) fun (x39 : api_Wide) => Option.bind (at_ (A2_api_Wide.list s19.Out) a1) fun (x43 : api_Wide) => Option.bind (wide_Cmp x39 x43) fun r47 => if (decide (r47 > 0)) = true then (some e21) else (some s19)) fun (y32 : exposure_Row) => some (.nx y32)) 0 ((slc a0 (1 : Int).toNat a0.length)) x9) fun o22 => Lo.on o22 fun (s19 : exposure_Row) => some s19.Router)
set_option maxRecDepth 20000 in
set_option maxHeartbeats 1000000 in
theorem S_exposure_Widest (v00 : Value) (a0 : List exposure_Row) (a1 : Int) (r : Int) (h : exposure_Widest a0 a1 = some r) :
    SpecF Try.prog 41 [v00, N a1] [] [rows 18 v00 (a0.map exposure_Row.cs)] (fun _ : Unit => True) (fun z => N r) (fun z M =>  M) (fun z M =>  M) := by
  refine .of func41 rfl ntmps41 rfl fun w0 D0 G0 => ?_
  unfold exposure_Widest at h
  refine .seq ?_
  refine .reg rfl ?_
  refine .op0 (OpP.toV (P.asg .k)) rfl ?_
  refine .nil ?_
  refine .then ?_
  refine .seq ?_
  obtain ⟨y1, hj3, h⟩ := thn_eq h
  refine .cutx (γ := Unit) (E1 := fun z2 => [(15, Bo y1), (0, v00), (1, N a1)]) (L1 := fun z2 => []) (R1 := fun z2 => [rows 18 v00 (a0.map exposure_Row.cs)]) ?_ (fun z2 => ?_)
  · clear h
    refine .reg rfl ?_
    refine .opp (P.mov .g0) rfl ?_
    refine .op (V.lnr (n := a0.length) .t0 Mm.m0 map_len runUnderlying78) rfl ?_
    refine .opp (P.bin .t0 .k .eql) rfl ?_
    refine .opp (P.mov .t0) rfl ?_
    refine .split .k0 (fun c4 => ?_) (fun c4 => ?_)
    · rw [if_pos c4] at hj3
      refine .gno rfl .g0 rfl rfl ?_
      refine .gno rfl .g0 rfl rfl ?_
      refine .gno rfl .g0 rfl rfl ?_
      refine .opp (P.pickT .t0 .k) rfl ?_
      refine .nil ?_
      subst hj3
      exact .stj () (.cons Mm.m0 (.cons Mm.m1 (.cons Mm.m2 .nil))) (.of .nil) (.cons Mm.m0 .nil)
    · rw [if_neg (ne_true_of_eq_false c4)] at hj3
      refine .gyes rfl .g0 ?_
      refine .opp (P.mov .g2) rfl ?_
      refine .gyes rfl .g1 ?_
      refine .opg (G.call call90 (.cons .t0 .nil) (S_exposure_known a1 _ rfl) .nil .nil (fun _ _ => rfl) (fun _ _ => rfl) rfl) rfl fun _ _ => ?_
      refine .gyes rfl .g1 ?_
      refine .opp (P.not .t0) rfl ?_
      refine .opp (P.pickF .t1 .t0) rfl ?_
      refine .nil ?_
      subst hj3
      exact .stj () (.cons Mm.m0 (.cons Mm.m1 (.cons Mm.m2 .nil))) (.of .nil) (.cons Mm.m0 .nil)
  · clear hj3
    refine .cond .t0 (fun c5 => ?_) (fun c5 => ?_)
    · rw [if_pos c5] at h
      refine .seq ?_
      refine .reg rfl ?_
      refine .opp (P.asg .k) rfl ?_
      refine .nil ?_
      refine .then ?_
      refine .ret ?_
      refine .thr ?_
      cases h
      exact .finw () (.r1 rfl (.tmp .g0)) trivial (Ls.of .nil) .nil
    · rw [if_neg (ne_true_of_eq_false c5)] at h
      refine .skip ?_
      refine .then ?_
      refine .seq ?_
      refine .reg rfl ?_
      refine .opp (P.mov .g0) rfl ?_
      obtain ⟨x9, hx10, h⟩ := bnd_eq h
      obtain ⟨i11, hi12, hx10⟩ := at_eq hx10
      have hi12_ : (0 : Int).toNat = i11 := by rw [hi12]; rfl
      refine .ixq Mm.m0 (map_get hx10) fun p6 q7 hq8 => ?_
      refine .opp (P.ixi (i := i11) .k hi12 .t0 hq8 runUnderlying78 sizeOf83) rfl ?_
      refine .op (V.ldx0 (u := Ag (exposure_Row.cs x9)) .t0 hq8 Mm.m0 (map_get hx10) (.agg isAgg83 sizeOf83 rfl rfl)) rfl ?_
      refine .opx (X.alc (cs := (exposure_Row.cs ⟨0, ⟨⟨0, 0, 0, 0⟩, ⟨0, 0, 0, 0⟩⟩, ⟨⟨0, 0, 0, 0⟩, ⟨0, 0, 0, 0⟩⟩, 0⟩)) zeroValue83 rfl) rfl fun b13 => ?_
      refine .opg (G.str .t1 .g0 .k0 (.mk (cs' := (exposure_Row.cs x9)) sizeOf83 rfl rfl rfl rfl)) rfl fun _ _ => ?_
      refine .nil ?_
      refine .then ?_
      refine .seq ?_
      refine .seq ?_
      refine .reg rfl ?_
      refine .opp (P.mov .t1) rfl ?_
      obtain ⟨hb14, h⟩ := grd_eq h
      refine .capq Mm.m0 fun hc16 => ?_
      refine .opg (G.slr (li := (some 1)) (hj := none) (mk := none) .t0 (.some .k) .none .none Mm.m0 hc16 runUnderlying78 sizeOf83 (by simpa using hb14) rfl) rfl fun u15 hu17 => ?_
      refine .rhead (q := rows 18 u15 (((slc a0 (1 : Int).toNat a0.length)).map exposure_Row.cs)) (fun _ hh => by simpa [slc_map] using hh) ?_
      refine .op (V.lnr (n := ((slc a0 (1 : Int).toNat a0.length)).length) .g0 Mm.m0 map_len runUnderlying78) rfl ?_
      refine .opp (P.mov .k) rfl ?_
      refine .nil ?_
      refine .then ?_
      refine .block ?_
      obtain ⟨o22, ho23, h⟩ := bnd_eq h
      refine .lenq Mm.m0 fun hl29 => ?_
      rw [map_len] at hl29
      refine .loopR (γ := Unit) (fun i18 (s19 : exposure_Row) z20 => [(22, N ((i18 : Int))), (21, N ((((slc a0 (1 : Int).toNat a0.length)).length : Int))), (20, u15), (5, pt b13 0), (1, N a1)]) (fun (s19 : exposure_Row) z20 => [blk b13 83 (exposure_Row.cs s19)]) (fun (s19 : exposure_Row) z20 => [rows 18 u15 (((slc a0 (1 : Int).toNat a0.length)).map exposure_Row.cs), rows 18 v00 (a0.map exposure_Row.cs)]) () ho23 (.cons Mm.m0 (.cons Mm.m1 (.cons Mm.m2 (.cons Mm.m3 (.cons Mm.m4 .nil))))) (.of (.cons .k0 .nil)) (.cons Mm.m0 (.cons Mm.m1 .nil)) (fun i18 s19 z20 hi30 hr26 => ?_)
      refine .seq ?_
      refine .reg rfl ?_
      refine .opp (P.bin (v := Bo (decide ((i18 : Int) < (((slc a0 (1 : Int).toNat a0.length)).length : Nat)))) .g0 .g1 .lss) rfl ?_
      refine .nil ?_
      refine .then ?_
      refine .seq ?_
      refine .cond .t0 (fun c31 => ?_) (fun c31 => ?_)
      · obtain ⟨e21, hx28⟩ := get_of c31
        obtain ⟨ct27, hc24, hn25⟩ := loopR_at hx28 hr26
        refine .skip ?_
        refine .then ?_
        obtain ⟨y32, hj34, hc24⟩ := bnd_eq hc24
        refine .cutx (γ := Unit) (E1 := fun z33 => [(22, N ((i18 : Int))), (21, N ((((slc a0 (1 : Int).toNat a0.length)).length : Int))), (20, u15), (5, pt b13 0), (1, N a1)]) (L1 := fun z33 => [blk b13 83 (exposure_Row.cs y32)]) (R1 := fun z33 => [rows 18 u15 (((slc a0 (1 : Int).toNat a0.length)).map exposure_Row.cs), rows 18 v00 (a0.map exposure_Row.cs)]) ?_ (fun z33 => ?_)
        · clear hc24
          refine .block ?_
          refine .seq ?_
          refine .reg rfl ?_
          refine .ixq Mm.m0 (map_get hx28) fun p35 q36 hq37 => ?_
          refine .opp (P.ixi (i := i18) .g0 rfl .g2 hq37 runUnderlying78 sizeOf83) rfl ?_
          refine .op (V.ldx0 (u := Ag (exposure_Row.cs e21)) .t0 hq37 Mm.m0 (map_get hx28) (.agg isAgg83 sizeOf83 rfl rfl)) rfl ?_
          refine .opx (X.alc (cs := (exposure_Row.cs ⟨0, ⟨⟨0, 0, 0, 0⟩, ⟨0, 0, 0, 0⟩⟩, ⟨⟨0, 0, 0, 0⟩, ⟨0, 0, 0, 0⟩⟩, 0⟩)) zeroValue83 rfl) rfl fun b38 => ?_
          refine .opg (G.str .t1 .g0 .k0 (.mk (cs' := (exposure_Row.cs e21)) sizeOf83 rfl rfl rfl rfl)) rfl fun _ _ => ?_
          refine .nil ?_
          refine .then ?_
          refine .seq ?_
          refine .draw 10 (.on 0 .pu (.on 1 .pu (.on 2 .pu (.on 4 .pu (.on 5 .pu (.on 6 .pu (.on 3 .ld (.on 7 .ld (.on 8 .go (.on 9 .pu .nl)))))))))) follows_mixed (.thn (.inb (.thn (.thn (.inb (.thn .body)))))) (by kernel_rfl) ?_
          refine .dpu rfl (.n rfl) (P.mov .g5) rfl rfl ?_
          refine .dpu rfl (.n rfl) (P.fa .g1 fa_83_2 rfl) rfl rfl ?_
          obtain ⟨x39, hx40, hj34⟩ := bnd_eq hj34
          obtain ⟨i41, hi42, hx40⟩ := at_eq hx40
          have hi42_ : (a1).toNat = i41 := by rw [hi42]; rfl
          refine .dpu rfl (.n rfl) (P.iad (i := i41) (off' := (9 + i41 * 4)) .t1 hi42 .t0 runUnderlying54 sizeOf27 (lt_of_get hx40) rfl) rfl rfl ?_
          refine .dpu rfl (.n rfl) (P.mov .g6) rfl rfl ?_
          refine .dpu rfl (.n rfl) (P.fa .g6 fa_83_2 rfl) rfl rfl ?_
          obtain ⟨x43, hx44, hj34⟩ := bnd_eq hj34
          obtain ⟨i45, hi46, hx44⟩ := at_eq hx44
          have hi46_ : (a1).toNat = i45 := by rw [hi46]; rfl
          refine .dpu rfl (.n rfl) (P.iad (i := i45) (off' := (9 + i45 * 4)) .t1 hi46 .t0 runUnderlying54 sizeOf27 (lt_of_get hx44) rfl) rfl rfl ?_
          refine .dld rfl (.n rfl) (V.ld (v := Ag (api_Wide.cs x39)) .t1 .k0 (by rcases i41 with _ | _ | _ <;> first | (obtain rfl := Option.some.inj hx40; exact LdV.agg isAgg27 sizeOf27 rfl rfl) | (cases hx40; done))) (fun _ h => h) rfl rfl ?_
          refine .dld rfl (.n rfl) (V.ld (v := Ag (api_Wide.cs x43)) .t1 .k1 (by rcases i45 with _ | _ | _ <;> first | (obtain rfl := Option.some.inj hx44; exact LdV.agg isAgg27 sizeOf27 rfl rfl) | (cases hx44; done))) (fun _ h => h) rfl rfl ?_
          obtain ⟨r47, hr48, hj34⟩ := bnd_eq hj34
          refine .dgo rfl (.n rfl) (G.call call91 (.cons .t1 (.cons .t0 .nil)) (S_wide_Cmp x39 x43 r47 hr48) .nil .nil (fun _ _ => rfl) (fun _ _ => rfl) rfl) (.inr fun _ _ _ h => h) fun _ _ => ?_
          refine .dpu rfl (.n rfl) (P.bin .t0 .k .gtr) rfl rfl ?_
          refine .dnil ?_
          refine .then ?_
          refine .cond .t0 (fun c49 => ?_) (fun c49 => ?_)
          · rw [if_pos c49] at hj34
            refine .reg rfl ?_
            refine .op (V.ld (v := Ag (exposure_Row.cs e21)) .t0 .k0 (.agg isAgg83 sizeOf83 rfl rfl)) rfl ?_
            refine .opg (G.str .t0 .g3 .k1 (.mk (cs' := (exposure_Row.cs e21)) sizeOf83 rfl rfl rfl rfl)) rfl fun _ _ => ?_
            refine .nil ?_
            refine .inn ?_
            cases hj34
            exact .stj () (.cons Mm.m0 (.cons Mm.m1 (.cons Mm.m2 (.cons Mm.m3 (.cons Mm.m4 .nil))))) (.of (.cons .k0 .nil)) (.cons Mm.m0 (.cons Mm.m1 .nil))
          · rw [if_neg (ne_true_of_eq_false c49)] at hj34
            refine .skip ?_
            refine .inn ?_
            cases hj34
            exact .stj () (.cons Mm.m1 (.cons Mm.m2 (.cons Mm.m3 (.cons Mm.m4 (.cons Mm.m5 .nil))))) (.of (.cons .k1 .nil)) (.cons Mm.m0 (.cons Mm.m1 .nil))
        · clear hj34
          refine .reg rfl ?_
          refine .opp (P.bin .g0 .k (.addc (inc_ok (lt_of_get hx28) hl29))) rfl ?_
          refine .drop .k1 ?_
          refine .opp (P.mov .t0) rfl ?_
          refine .nil ?_
          cases hc24
          exact .rdR y32 () hn25 (lt_of_get hx28) (.cons Mm.m0 (.cons Mm.m1 (.cons Mm.m2 (.cons Mm.m3 (.cons Mm.m4 .nil))))) (.of (.cons .k0 .nil)) (.cons Mm.m0 (.cons Mm.m1 .nil))
      · obtain rfl := loopR_end (le_of_not c31) hr26
        have h := dn_on h
        refine .exit ?_
        refine .thx ?_
        refine .thx ?_
        refine .inb ?_
        refine .then ?_
        refine .seq ?_
        refine .reg rfl ?_
        refine .opp (P.fa .t3 fa_83_0 rfl) rfl ?_
        refine .op (V.ld (v := N s19.Router) .t0 .k0 (.one isAgg3 rfl)) rfl ?_
        refine .opp (P.asg .t0) rfl ?_
        refine .nil ?_
        refine .then ?_
        refine .ret ?_
        cases h
        exact .finw () (.r1 rfl (.tmp .g0)) trivial (Ls.of .nil) .nil
attribute [irreducible] exposure_Widest
noncomputable def narrowslaw38_alive  : Option (Bool) :=
  Option.bind (exposure_Of ((escrow_Genesis 0 5)) ([] : List api_Event)) fun r2 => Option.bind (if (decide (((r2.length : Int)) = 2)) = true then (Option.bind (at_ r2 0) fun (x12 : exposure_Row) => if (decide (x12.Router = 2)) = true then (Option.bind (at_ r2 1) fun (x20 : exposure_Row) => if (decide (x20.Router = 3)) = true then (Option.bind (at_ r2 0) fun (x28 : exposure_Row) => if (decide (x28.Open = 0)) = true then (Option.bind (exposure_Widest r2 0) fun r33 => some (decide (r33 = 2))) else (some false)) else (some false)) else (some false)) else (some false)) fun (y5 : Bool) => some y5
set_option maxRecDepth 20000 in
set_option maxHeartbeats 1000000 in
theorem S_narrowslaw38_alive  (r : Bool) (h : narrowslaw38_alive  = some r) :
    SpecF Try.prog 35 [] [] [] (fun _ : Unit => True) (fun z => Bo r) (fun z M =>  M) (fun z M =>  M) := by
  refine .of func35 rfl ntmps35 rfl fun w0 D0 G0 => ?_
  unfold narrowslaw38_alive at h
  refine .seq ?_
  refine .reg rfl ?_
  refine .op0 (OpP.toV (P.asg .k)) rfl ?_
  refine .nil ?_
  refine .then ?_
  refine .seq ?_
  refine .reg rfl ?_
  refine .opg (G.call call54 (.cons .k (.cons .k .nil)) (S_escrow_Genesis 0 5 _ rfl) .nil .nil (fun _ _ => rfl) (fun _ _ => rfl) rfl) rfl fun u1 _ => ?_
  refine .rnil0 27 ?_
  obtain ⟨r2, hr3, h⟩ := bnd_eq h
  refine .opg (G.call call36 (.cons .t0 (.cons .k .nil)) (S_exposure_Of ((escrow_Genesis 0 5)) u1 nilSl ([] : List api_Event) r2 hr3) .nil (.cons Mm.m1 (.cons Mm.m0 .nil)) (fun _ _ => rfl) (fun _ _ => rfl) rfl) rfl fun u4 _ => ?_
  refine .opp (P.asg .t0) rfl ?_
  refine .nil ?_
  refine .then ?_
  refine .frz .k0 ?_
  obtain ⟨y5, hj7, h⟩ := bnd_eq h
  refine .cutx (γ := Unit) (E1 := fun z6 => [(0, Bo y5)]) (L1 := fun z6 => []) (R1 := fun z6 => []) ?_ (fun z6 => ?_)
  · clear h
    refine .reg rfl ?_
    refine .opp (P.mov .g0) rfl ?_
    refine .op (V.lnr (n := r2.length) .t0 Mm.m0 map_len runUnderlying78) rfl ?_
    refine .opp (P.bin .t0 .k .eql) rfl ?_
    refine .opp (P.mov .t0) rfl ?_
    refine .split .k0 (fun c8 => ?_) (fun c8 => ?_)
    · rw [if_pos c8] at hj7
      refine .gyes rfl .g0 ?_
      refine .opp (P.mov .g1) rfl ?_
      refine .gyes rfl .g1 ?_
      obtain ⟨x12, hx13, hj7⟩ := bnd_eq hj7
      obtain ⟨i14, hi15, hx13⟩ := at_eq hx13
      have hi15_ : (0 : Int).toNat = i14 := by rw [hi15]; rfl
      refine .ixq Mm.m0 (map_get hx13) fun p9 q10 hq11 => ?_
      refine .opp (P.ixi (i := i14) .k hi15 .t0 hq11 runUnderlying78 sizeOf83) rfl ?_
      refine .gyes rfl .g1 ?_
      refine .opp (P.fa (off' := q10) .t0 fa_83_0 rfl) rfl ?_
      refine .gyes rfl .g1 ?_
      refine .op (V.ldx0 (u := N x12.Router) .t0 hq11 Mm.m0 (map_get hx13) (.one isAgg3 rfl)) rfl ?_
      refine .gyes rfl .g1 ?_
      refine .opp (P.bin .t0 .k .eql) rfl ?_
      refine .opp (P.pickT .t1 .t0) rfl ?_
      refine .opp (P.mov .t0) rfl ?_
      refine .split .k0 (fun c16 => ?_) (fun c16 => ?_)
      · rw [if_pos c16] at hj7
        refine .gyes rfl .g0 ?_
        refine .opp (P.mov .g1) rfl ?_
        refine .gyes rfl .g1 ?_
        obtain ⟨x20, hx21, hj7⟩ := bnd_eq hj7
        obtain ⟨i22, hi23, hx21⟩ := at_eq hx21
        have hi23_ : (1 : Int).toNat = i22 := by rw [hi23]; rfl
        refine .ixq Mm.m0 (map_get hx21) fun p17 q18 hq19 => ?_
        refine .opp (P.ixi (i := i22) .k hi23 .t0 hq19 runUnderlying78 sizeOf83) rfl ?_
        refine .gyes rfl .g1 ?_
        refine .opp (P.fa (off' := q18) .t0 fa_83_0 rfl) rfl ?_
        refine .gyes rfl .g1 ?_
        refine .op (V.ldx0 (u := N x20.Router) .t0 hq19 Mm.m0 (map_get hx21) (.one isAgg3 rfl)) rfl ?_
        refine .gyes rfl .g1 ?_
        refine .opp (P.bin .t0 .k .eql) rfl ?_
        refine .opp (P.pickT .t1 .t0) rfl ?_
        refine .opp (P.mov .t0) rfl ?_
        refine .split .k0 (fun c24 => ?_) (fun c24 => ?_)
        · rw [if_pos c24] at hj7
          refine .gyes rfl .g0 ?_
          refine .opp (P.mov .g1) rfl ?_
          refine .gyes rfl .g1 ?_
          obtain ⟨x28, hx29, hj7⟩ := bnd_eq hj7
          obtain ⟨i30, hi31, hx29⟩ := at_eq hx29
          have hi31_ : (0 : Int).toNat = i30 := by rw [hi31]; rfl
          refine .ixq Mm.m0 (map_get hx29) fun p25 q26 hq27 => ?_
          refine .opp (P.ixi (i := i30) .k hi31 .t0 hq27 runUnderlying78 sizeOf83) rfl ?_
          refine .gyes rfl .g1 ?_
          refine .opp (P.fa (off' := q26 + 17) .t0 fa_83_3 rfl) rfl ?_
          refine .gyes rfl .g1 ?_
          refine .op (V.ldx (u := N x28.Open) (off := q26) (k := 17) .t0 hq27 Mm.m0 (map_get hx29) (.one isAgg3 rfl)) rfl ?_
          refine .gyes rfl .g1 ?_
          refine .opp (P.bin .t0 .k .eql) rfl ?_
          refine .opp (P.pickT .t1 .t0) rfl ?_
          refine .opp (P.mov .t0) rfl ?_
          refine .split .k0 (fun c32 => ?_) (fun c32 => ?_)
          · rw [if_pos c32] at hj7
            refine .gyes rfl .g0 ?_
            refine .opp (P.mov .t1) rfl ?_
            refine .gyes rfl .g1 ?_
            obtain ⟨r33, hr34, hj7⟩ := bnd_eq hj7
            refine .opg (G.call call41 (.cons .t0 (.cons .k .nil)) (S_exposure_Widest u4 r2 0 r33 hr34) .nil (.cons Mm.m0 .nil) (fun _ _ => rfl) (fun _ _ => rfl) rfl) rfl fun _ _ => ?_
            refine .gyes rfl .g1 ?_
            refine .opp (P.bin .t0 .k .eql) rfl ?_
            refine .opp (P.pickT .t1 .t0) rfl ?_
            refine .opp (P.asg .t0) rfl ?_
            refine .nil ?_
            cases hj7
            exact .stj () (.cons Mm.m0 .nil) (.of .nil) .nil
          · rw [if_neg (ne_true_of_eq_false c32)] at hj7
            refine .gno rfl .g0 rfl rfl ?_
            refine .gno rfl .g0 rfl rfl ?_
            refine .gno rfl .g0 rfl rfl ?_
            refine .opp (P.pickF .t0 .k) rfl ?_
            refine .opp (P.asg .t0) rfl ?_
            refine .nil ?_
            cases hj7
            exact .stj () (.cons Mm.m0 .nil) (.of .nil) .nil
        · rw [if_neg (ne_true_of_eq_false c24)] at hj7
          refine .gno rfl .g0 rfl rfl ?_
          refine .gno rfl .g0 rfl rfl ?_
          refine .gno rfl .g0 rfl rfl ?_
          refine .gno rfl .g0 rfl rfl ?_
          refine .gno rfl .g0 rfl rfl ?_
          refine .opp (P.pickF .t0 .k) rfl ?_
          refine .opp (P.mov .t0) rfl ?_
          refine .gno rfl .g0 rfl rfl ?_
          refine .gno rfl .g0 rfl rfl ?_
          refine .gno rfl .g0 rfl rfl ?_
          refine .opp (P.pickF .t0 .k) rfl ?_
          refine .opp (P.asg .t0) rfl ?_
          refine .nil ?_
          cases hj7
          exact .stj () (.cons Mm.m0 .nil) (.of .nil) .nil
      · rw [if_neg (ne_true_of_eq_false c16)] at hj7
        refine .gno rfl .g0 rfl rfl ?_
        refine .gno rfl .g0 rfl rfl ?_
        refine .gno rfl .g0 rfl rfl ?_
        refine .gno rfl .g0 rfl rfl ?_
        refine .gno rfl .g0 rfl rfl ?_
        refine .opp (P.pickF .t0 .k) rfl ?_
        refine .opp (P.mov .t0) rfl ?_
        refine .gno rfl .g0 rfl rfl ?_
        refine .gno rfl .g0 rfl rfl ?_
        refine .gno rfl .g0 rfl rfl ?_
        refine .gno rfl .g0 rfl rfl ?_
        refine .gno rfl .g0 rfl rfl ?_
        refine .opp (P.pickF .t0 .k) rfl ?_
        refine .opp (P.mov .t0) rfl ?_
        refine .gno rfl .g0 rfl rfl ?_
        refine .gno rfl .g0 rfl rfl ?_
        refine .gno rfl .g0 rfl rfl ?_
        refine .opp (P.pickF .t0 .k) rfl ?_
        refine .opp (P.asg .t0) rfl ?_
        refine .nil ?_
        cases hj7
        exact .stj () (.cons Mm.m0 .nil) (.of .nil) .nil
    · rw [if_neg (ne_true_of_eq_false c8)] at hj7
      refine .gno rfl .g0 rfl rfl ?_
      refine .gno rfl .g0 rfl rfl ?_
      refine .gno rfl .g0 rfl rfl ?_
      refine .gno rfl .g0 rfl rfl ?_
      refine .gno rfl .g0 rfl rfl ?_
      refine .opp (P.pickF .t0 .k) rfl ?_
      refine .opp (P.mov .t0) rfl ?_
      refine .gno rfl .g0 rfl rfl ?_
      refine .gno rfl .g0 rfl rfl ?_
      refine .gno rfl .g0 rfl rfl ?_
      refine .gno rfl .g0 rfl rfl ?_
      refine .gno rfl .g0 rfl rfl ?_
      refine .opp (P.pickF .t0 .k) rfl ?_
      refine .opp (P.mov .t0) rfl ?_
      refine .gno rfl .g0 rfl rfl ?_
      refine .gno rfl .g0 rfl rfl ?_
      refine .gno rfl .g0 rfl rfl ?_
      refine .gno rfl .g0 rfl rfl ?_
      refine .gno rfl .g0 rfl rfl ?_
      refine .opp (P.pickF .t0 .k) rfl ?_
      refine .opp (P.mov .t0) rfl ?_
      refine .gno rfl .g0 rfl rfl ?_
      refine .gno rfl .g0 rfl rfl ?_
      refine .gno rfl .g0 rfl rfl ?_
      refine .opp (P.pickF .t0 .k) rfl ?_
      refine .opp (P.asg .t0) rfl ?_
      refine .nil ?_
      cases hj7
      exact .stj () (.cons Mm.m0 .nil) (.of .nil) .nil
  · clear hj7
    refine .ret ?_
    cases h
    exact .finw () (.r1 rfl (.tmp .g0)) trivial (Ls.of .nil) .nil
attribute [irreducible] narrowslaw38_alive
noncomputable def narrowslaw38_ExposureTells (a0 : escrow_State) (a1 : List api_Event) : Option (Bool) :=
  Option.bind (narrowslaw38_alive) fun r2 => if (!r2) = true then (some false) else (Option.bind (exposure_Of a0 a1) fun r5 => if (decide (((r5.length : Int)) ≠ 2)) = true then (some false) else (Option.bind (scan_Deals a1) fun r9 => Option.bind (loopW (fun (s12 : Int) => if (decide (s12 < 4)) = true then (Option.bind (at_ (purse_Book.list a0.Vault) s12) fun (x22 : A2_api_Wide) => Option.bind (loopW (fun (s27 : Int × A2_api_Wide × Int) => if (decide (s27.1 < ((r9.length : Int)))) = true then (Option.bind (Option.bind (at_ r9 s27.1) fun (x43 : api_Tx) => Option.bind (if (decide (x43.Inv.Router ≠ s12)) = true then (some true) else (Option.bind (deal_Key x43.Inv) fun r52 => Option.bind (escrow_Status a0 r52) fun r54 => some (decide (r54 ≠ 1)))) fun (y48 : Bool) => if y48 = true then (some (s27.2.1, s27.2.2)) else (thn (if (decide (a0.Side = 1)) = true then (bandK .i64 x43.Inv.Recv 1) else (bandK .i64 x43.Inv.Send 1)) fun (y57 : Int) => Option.bind (at_ (A2_api_Wide.list s27.2.1) y57) fun (x61 : api_Wide) => Option.bind (narrowsref01_Add x61 x43.Var.Amount) fun r65 => Option.bind (at_ (A2_api_Wide.list s27.2.1) y57) fun (x67 : api_Wide) => some ((A2_api_Wide.set s27.2.1 (y57).toNat r65.1, IntKind.i64.wrap (s27.2.2 + 1))))) fun (y37 : A2_api_Wide × Int) => some (.nx ((IntKind.i64.wrap (s27.1 + 1), y37.1, y37.2)))) else (some (.br (s27.1, s27.2.1, s27.2.2)))) (0, ⟨⟨0, 0, 0, 0⟩, ⟨0, 0, 0, 0⟩⟩, 0)) fun o29 => Lo.on o29 fun (s27 : Int × A2_api_Wide × Int) => Option.bind (at_ r5 (IntKind.i64.wrap (s12 - 2))) fun (x76 : exposure_Row) => if (decide ((x76 : exposure_Row) ≠ (⟨s12, x22, s27.2.1, s27.2.2⟩ : exposure_Row))) = true then (Option.map Ct.rt (some false)) else (some (.nx (IntKind.i64.wrap (s12 + 1))))) else (some (.br s12))) 2) fun o14 => Lo.on o14 fun (s12 : Int) => some true))
set_option maxRecDepth 20000 in
set_option maxHeartbeats 1000000 in
theorem S_narrowslaw38_ExposureTells (a0 : escrow_State) (z00a : Value) (v01 : Value) (a1 : List api_Event) (r : Bool) (h : narrowslaw38_ExposureTells a0 a1 = some r) :
    SpecF Try.prog 9 [Ag (escrow_State.cs a0 z00a), v01] [] [rows 3 z00a (a0.Locks.map escrow_Lock.cs), rows 27 v01 (a1.map api_Event.cs)] (fun _ : Unit => True) (fun z => Bo r) (fun z M =>  M) (fun z M =>  M) := by
  refine .of func9 rfl ntmps9 rfl fun w0 D0 G0 => ?_
  unfold narrowslaw38_ExposureTells at h
  refine .seq ?_
  refine .reg rfl ?_
  refine .opx (X.box (cs := (escrow_State.cs a0 z00a)) .t0 rfl) rfl fun b1 => ?_
  refine .op0 (OpP.toV (P.asg .k)) rfl ?_
  refine .nil ?_
  refine .then ?_
  refine .seq ?_
  refine .seq ?_
  refine .reg rfl ?_
  obtain ⟨r2, hr3, h⟩ := bnd_eq h
  refine .opg (G.call call35 .nil (S_narrowslaw38_alive  r2 hr3) .nil .nil (fun _ _ => rfl) (fun _ _ => rfl) rfl) rfl fun _ _ => ?_
  refine .opp (P.not .t0) rfl ?_
  refine .nil ?_
  refine .then ?_
  refine .cond .t0 (fun c4 => ?_) (fun c4 => ?_)
  · rw [if_pos c4] at h
    refine .seq ?_
    refine .reg rfl ?_
    refine .opp (P.asg .k) rfl ?_
    refine .nil ?_
    refine .then ?_
    refine .ret ?_
    refine .thr ?_
    cases h
    exact .finw () (.r1 rfl (.tmp .g0)) trivial (Ls.of .nil) .nil
  · rw [if_neg (ne_true_of_eq_false c4)] at h
    refine .skip ?_
    refine .then ?_
    refine .seq ?_
    refine .reg rfl ?_
    refine .op (V.ld (v := Ag (escrow_State.cs a0 z00a)) .g0 .k0 (.agg isAgg64 sizeOf64 rfl rfl)) rfl ?_
    refine .opp (P.mov .g2) rfl ?_
    obtain ⟨r5, hr6, h⟩ := bnd_eq h
    refine .opg (G.call call36 (.cons .t1 (.cons .t0 .nil)) (S_exposure_Of a0 z00a v01 a1 r5 hr6) .nil (.cons Mm.m0 (.cons Mm.m1 .nil)) (fun _ _ => rfl) (fun _ _ => rfl) rfl) rfl fun u7 _ => ?_
    refine .opp (P.asg .t0) rfl ?_
    refine .nil ?_
    refine .then ?_
    refine .seq ?_
    refine .seq ?_
    refine .reg rfl ?_
    refine .opp (P.mov .g0) rfl ?_
    refine .op (V.lnl (n := r5.length) .t0 .k0 map_len runUnderlying78) rfl ?_
    refine .opp (P.bin .t0 .k .neq) rfl ?_
    refine .nil ?_
    refine .then ?_
    refine .cond .t0 (fun c8 => ?_) (fun c8 => ?_)
    · rw [if_pos c8] at h
      refine .seq ?_
      refine .reg rfl ?_
      refine .opp (P.asg .k) rfl ?_
      refine .nil ?_
      refine .then ?_
      refine .ret ?_
      refine .thr ?_
      cases h
      exact .finw () (.r1 rfl (.tmp .g0)) trivial (Ls.of .nil) .nil
    · rw [if_neg (ne_true_of_eq_false c8)] at h
      refine .skip ?_
      refine .then ?_
      refine .seq ?_
      refine .reg rfl ?_
      refine .opp (P.mov .t2) rfl ?_
      obtain ⟨r9, hr10, h⟩ := bnd_eq h
      refine .opg (G.call call37 (.cons .t0 .nil) (S_scan_Deals v01 a1 r9 hr10) .nil (.cons Mm.m1 .nil) (fun _ _ => rfl) (fun _ _ => rfl) rfl) rfl fun u11 _ => ?_
      refine .opp (P.asg .t0) rfl ?_
      refine .nil ?_
      refine .then ?_
      refine .seq ?_
      refine .seq ?_
      refine .reg rfl ?_
      refine .opp (P.asg .k) rfl ?_
      refine .nil ?_
      refine .then ?_
      refine .block ?_
      obtain ⟨o14, ho15, h⟩ := bnd_eq h
      refine .loopW (γ := Unit) (fun (s12 : Int) z13 => [(7, N s12), (6, u11), (5, u7), (2, pt b1 0)]) (fun (s12 : Int) z13 => [blk b1 64 (escrow_State.cs a0 z00a), lst 36 25 u11 (r9.map api_Tx.cs), lst 83 18 u7 (r5.map exposure_Row.cs)]) (fun (s12 : Int) z13 => [rows 3 z00a (a0.Locks.map escrow_Lock.cs), rows 27 v01 (a1.map api_Event.cs)]) () ho15 (.cons Mm.m0 (.cons Mm.m1 (.cons Mm.m2 (.cons Mm.m3 .nil)))) (.of (.cons .k2 (.cons .k0 (.cons .k0 .nil)))) (.cons Mm.m0 (.cons Mm.m1 .nil)) (fun n20 s12 z13 hr18 => ?_)
      obtain ⟨ct19, hc16, hn17⟩ := loopK_at hr18
      refine .seq ?_
      refine .seq ?_
      refine .reg rfl ?_
      refine .opp (P.mov .g0) rfl ?_
      refine .opp (P.bin .t0 .k .lss) rfl ?_
      refine .nil ?_
      refine .then ?_
      refine .cond .t0 (fun c21 => ?_) (fun c21 => ?_)
      · rw [if_pos c21] at hc16
        refine .skip ?_
        refine .then ?_
        refine .seq ?_
        refine .block ?_
        refine .seq ?_
        refine .reg rfl ?_
        refine .opp (P.mov .g0) rfl ?_
        refine .opp (P.mov .g1) rfl ?_
        refine .opp (P.fa .g5 fa_64_3 rfl) rfl ?_
        obtain ⟨x22, hx23, hc16⟩ := bnd_eq hc16
        obtain ⟨i24, hi25, hx23⟩ := at_eq hx23
        have hi25_ : (s12).toNat = i24 := by rw [hi25]; rfl
        refine .opp (P.iad (i := i24) (off' := (66 + i24 * 8)) .t1 hi25 .t0 runUnderlying60 sizeOf54 (lt_of_get hx23) rfl) rfl ?_
        refine .op (V.ld (v := Ag (A2_api_Wide.cs x22)) .t0 .k0 (by rcases i24 with _ | _ | _ | _ | _ | _ | _ | _ | _ <;> first | (obtain rfl := Option.some.inj hx23; exact LdV.agg isAgg54 sizeOf54 rfl rfl) | (cases hx23; done))) rfl ?_
        refine .opp (P.bld (v := Ag (exposure_Row.cs ⟨s12, x22, ⟨⟨0, 0, 0, 0⟩, ⟨0, 0, 0, 0⟩⟩, 0⟩)) (.cons .t1 (.cons .t0 .nil)) (bld_run zeroValue83 runUnderlying83 pl_83 (by kernel_rfl))) rfl ?_
        refine .opx (X.alc (cs := (exposure_Row.cs ⟨0, ⟨⟨0, 0, 0, 0⟩, ⟨0, 0, 0, 0⟩⟩, ⟨⟨0, 0, 0, 0⟩, ⟨0, 0, 0, 0⟩⟩, 0⟩)) zeroValue83 rfl) rfl fun b26 => ?_
        refine .opg (G.str .t1 .g0 .k0 (.mk (cs' := (exposure_Row.cs ⟨s12, x22, ⟨⟨0, 0, 0, 0⟩, ⟨0, 0, 0, 0⟩⟩, 0⟩)) sizeOf83 rfl rfl rfl rfl)) rfl fun _ _ => ?_
        refine .nil ?_
        refine .then ?_
        refine .seq ?_
        refine .seq ?_
        refine .reg rfl ?_
        refine .opp (P.asg .k) rfl ?_
        refine .nil ?_
        refine .then ?_
        refine .block ?_
        obtain ⟨o29, ho30, hc16⟩ := bnd_eq hc16
        refine .loopW (γ := Unit) (fun (s27 : Int × A2_api_Wide × Int) z28 => [(9, N s27.1), (8, pt b26 0), (7, N s12), (6, u11), (5, u7), (2, pt b1 0)]) (fun (s27 : Int × A2_api_Wide × Int) z28 => [blk b26 83 (exposure_Row.cs ⟨s12, x22, s27.2.1, s27.2.2⟩), blk b1 64 (escrow_State.cs a0 z00a), lst 36 25 u11 (r9.map api_Tx.cs), lst 83 18 u7 (r5.map exposure_Row.cs)]) (fun (s27 : Int × A2_api_Wide × Int) z28 => [rows 3 z00a (a0.Locks.map escrow_Lock.cs), rows 27 v01 (a1.map api_Event.cs)]) () ho30 (.cons Mm.m0 (.cons Mm.m1 (.cons Mm.m2 (.cons Mm.m3 (.cons Mm.m4 (.cons Mm.m5 .nil)))))) (.of (.cons .k0 (.cons .k0 (.cons .k0 (.cons .k0 .nil))))) (.cons Mm.m0 (.cons Mm.m1 .nil)) (fun n35 s27 z28 hr33 => ?_)
        obtain ⟨ct34, hc31, hn32⟩ := loopK_at hr33
        refine .seq ?_
        refine .seq ?_
        refine .reg rfl ?_
        refine .opp (P.mov .g0) rfl ?_
        refine .opp (P.mov .g4) rfl ?_
        refine .op (V.lnl (n := r9.length) .t0 .k2 map_len runUnderlying80) rfl ?_
        refine .opp (P.bin .t1 .t0 .lss) rfl ?_
        refine .nil ?_
        refine .then ?_
        refine .cond .t0 (fun c36 => ?_) (fun c36 => ?_)
        · rw [if_pos c36] at hc31
          refine .skip ?_
          refine .then ?_
          obtain ⟨y37, hj39, hc31⟩ := bnd_eq hc31
          refine .cutx (γ := Unit) (E1 := fun z38 => [(9, N s27.1), (8, pt b26 0), (7, N s12), (6, u11), (5, u7), (2, pt b1 0)]) (L1 := fun z38 => [blk b26 83 (exposure_Row.cs ⟨s12, x22, y37.1, y37.2⟩), blk b1 64 (escrow_State.cs a0 z00a), lst 36 25 u11 (r9.map api_Tx.cs), lst 83 18 u7 (r5.map exposure_Row.cs)]) (R1 := fun z38 => [rows 3 z00a (a0.Locks.map escrow_Lock.cs), rows 27 v01 (a1.map api_Event.cs)]) ?_ (fun z38 => ?_)
          · clear hc31
            refine .block ?_
            refine .seq ?_
            refine .reg rfl ?_
            refine .opp (P.mov .g3) rfl ?_
            refine .opp (P.mov .g1) rfl ?_
            obtain ⟨x43, hx44, hj39⟩ := bnd_eq hj39
            obtain ⟨i45, hi46, hx44⟩ := at_eq hx44
            have hi46_ : (s27.1).toNat = i45 := by rw [hi46]; rfl
            refine .ixql .k2 (map_get hx44) fun p40 q41 hq42 => ?_
            refine .opp (P.ixi (i := i45) .t0 hi46 .t0 hq42 runUnderlying80 sizeOf36) rfl ?_
            refine .op (V.ldxl0 (u := Ag (api_Tx.cs x43)) .t0 hq42 .k2 (map_get hx44) (.agg isAgg36 sizeOf36 rfl rfl)) rfl ?_
            refine .opx (X.alc (cs := (api_Tx.cs ⟨0, 0, 0, 0, ⟨0, 0, 0, 0⟩, ⟨0, ⟨#[]⟩, 0, 0, 0, 0, ⟨#[]⟩⟩, ⟨⟨0, 0, 0, 0⟩, 0⟩, ⟨0, 0, 0, 0⟩, ⟨#[]⟩⟩)) zeroValue36 rfl) rfl fun b47 => ?_
            refine .opg (G.str .t1 .g0 .k0 (.mk (cs' := (api_Tx.cs x43)) sizeOf36 rfl rfl rfl rfl)) rfl fun _ _ => ?_
            refine .nil ?_
            refine .then ?_
            refine .seq ?_
            obtain ⟨y48, hj50, hj39⟩ := bnd_eq hj39
            refine .cutx (γ := Unit) (E1 := fun z49 => [(54, Bo y48), (10, pt b47 0), (9, N s27.1), (8, pt b26 0), (7, N s12), (6, u11), (5, u7), (2, pt b1 0)]) (L1 := fun z49 => [blk b47 36 (api_Tx.cs x43), blk b26 83 (exposure_Row.cs ⟨s12, x22, s27.2.1, s27.2.2⟩), blk b1 64 (escrow_State.cs a0 z00a), lst 36 25 u11 (r9.map api_Tx.cs), lst 83 18 u7 (r5.map exposure_Row.cs)]) (R1 := fun z49 => [rows 3 z00a (a0.Locks.map escrow_Lock.cs), rows 27 v01 (a1.map api_Event.cs)]) ?_ (fun z49 => ?_)
            · clear hj39
              refine .draw 13 (.on 0 .pu (.on 1 .pu (.on 3 .pu (.on 2 .ld (.on 4 .pu (.on 5 .pu (.on 7 .pu (.on 6 .ld (.on 8 .ld (.on 9 .go (.on 10 .go (.on 11 .pu (.on 12 .pu .nl))))))))))))) follows_mixed (.thn (.thn (.inb (.thn (.thn (.inb (.thn (.inb (.thn (.thn (.inb (.thn .body)))))))))))) (by kernel_rfl) ?_
              refine .dpu rfl (.n rfl) (P.fa .g0 fa_36_5 rfl) rfl rfl ?_
              refine .dpu rfl (.n rfl) (P.fa .t0 fa_32_2 rfl) rfl rfl ?_
              refine .dpu rfl (.n rfl) (P.mov .g4) rfl rfl ?_
              refine .dld rfl (.n rfl) (V.ld (v := N x43.Inv.Router) .t1 .k0 (.one isAgg3 rfl)) (fun _ h => h) rfl rfl ?_
              refine .dpu rfl (.n rfl) (P.bin .t0 .t0 .neq) rfl rfl ?_
              refine .dpu rfl (.n rfl) (P.mov .t0) rfl rfl ?_
              refine .split .k0 (fun c51 => ?_) (fun c51 => ?_)
              · rw [if_pos c51] at hj50
                refine .dsk rfl (.g rfl rfl .g0 rfl) rfl rfl ?_
                refine .dskl rfl (.g rfl rfl .g0 rfl) (fun _ h => h) rfl rfl ?_
                refine .dskl rfl (.g rfl rfl .g0 rfl) (fun _ h => h) rfl rfl ?_
                refine .dskg rfl (.g rfl rfl .g0 rfl) (.inr fun _ h => h) rfl rfl ?_
                refine .dskg rfl (.g rfl rfl .g0 rfl) (.inr fun _ h => h) rfl rfl ?_
                refine .dsk rfl (.g rfl rfl .g0 rfl) rfl rfl ?_
                refine .dpu rfl (.n rfl) (P.pickT .t0 .k) rfl rfl ?_
                refine .dnil ?_
                cases hj50
                exact .stj () (.cons Mm.m0 (.cons Mm.m1 (.cons Mm.m2 (.cons Mm.m3 (.cons Mm.m4 (.cons Mm.m5 (.cons Mm.m6 (.cons Mm.m7 .nil)))))))) (.of (.cons .k0 (.cons .k0 (.cons .k0 (.cons .k0 (.cons .k0 .nil)))))) (.cons Mm.m0 (.cons Mm.m1 .nil))
              · rw [if_neg (ne_true_of_eq_false c51)] at hj50
                refine .dpu rfl (.g rfl rfl .g0 rfl) (P.fa .g1 fa_36_5 rfl) rfl rfl ?_
                refine .dld rfl (.g rfl rfl .g1 rfl) (V.ld (v := Ag (escrow_State.cs a0 z00a)) .g8 .k2 (.agg isAgg64 sizeOf64 rfl rfl)) (fun _ h => h) rfl rfl ?_
                refine .dld rfl (.g rfl rfl .g2 rfl) (V.ld (v := Ag (api_Inv.cs x43.Inv)) .t1 .k0 (.agg isAgg32 sizeOf32 rfl rfl)) (fun _ h => h) rfl rfl ?_
                obtain ⟨r52, hr53, hj50⟩ := bnd_eq hj50
                refine .dgo rfl (.g rfl rfl .g2 rfl) (G.call call39 (.cons .t0 .nil) (S_deal_Key x43.Inv r52 hr53) .nil .nil (fun _ _ => rfl) (fun _ _ => rfl) rfl) (.inr fun _ _ _ h => h) fun _ _ => ?_
                obtain ⟨r54, hr55, hj50⟩ := bnd_eq hj50
                refine .dgo rfl (.g rfl rfl .g2 rfl) (G.call call38 (.cons .t1 (.cons .t0 .nil)) (S_escrow_Status a0 z00a r52 r54 hr55) .nil (.cons Mm.m0 .nil) (fun _ _ => rfl) (fun _ _ => rfl) rfl) (.inr fun _ _ _ h => h) fun _ _ => ?_
                refine .dpu rfl (.g rfl rfl .g1 rfl) (P.bin .t0 .k .neq) rfl rfl ?_
                refine .dpu rfl (.n rfl) (P.pickF .t1 .t0) rfl rfl ?_
                refine .dnil ?_
                cases hj50
                exact .stj () (.cons Mm.m0 (.cons Mm.m1 (.cons Mm.m2 (.cons Mm.m3 (.cons Mm.m4 (.cons Mm.m5 (.cons Mm.m6 (.cons Mm.m7 .nil)))))))) (.of (.cons .k0 (.cons .k0 (.cons .k0 (.cons .k0 (.cons .k0 .nil)))))) (.cons Mm.m0 (.cons Mm.m1 .nil))
            · clear hj50
              refine .cond .t0 (fun c56 => ?_) (fun c56 => ?_)
              · rw [if_pos c56] at hj39
                refine .exit ?_
                refine .thx ?_
                refine .inb ?_
                cases hj39
                exact .stj () (.cons Mm.m1 (.cons Mm.m2 (.cons Mm.m3 (.cons Mm.m4 (.cons Mm.m5 (.cons Mm.m6 .nil)))))) (.of (.cons .k1 (.cons .k1 (.cons .k1 (.cons .k1 .nil))))) (.cons Mm.m0 (.cons Mm.m1 .nil))
              · rw [if_neg (ne_true_of_eq_false c56)] at hj39
                refine .skip ?_
                refine .then ?_
                refine .seq ?_
                refine .reg rfl ?_
                refine .opp (P.fa .g0 fa_36_5 rfl) rfl ?_
                refine .opp (P.fa .t0 fa_32_3 rfl) rfl ?_
                refine .op (V.ld (v := N x43.Inv.Send) .t0 .k0 (.one isAgg3 rfl)) rfl ?_
                refine .opp (P.bin .t0 .k .and) rfl ?_
                refine .opp (P.asg .t0) rfl ?_
                refine .nil ?_
                refine .then ?_
                obtain ⟨y57, hj59, hj39⟩ := thn_eq hj39
                refine .cutx (γ := Unit) (E1 := fun z58 => [(11, N y57), (10, pt b47 0), (9, N s27.1), (8, pt b26 0), (7, N s12), (6, u11), (5, u7), (2, pt b1 0)]) (L1 := fun z58 => [blk b47 36 (api_Tx.cs x43), blk b26 83 (exposure_Row.cs ⟨s12, x22, s27.2.1, s27.2.2⟩), blk b1 64 (escrow_State.cs a0 z00a), lst 36 25 u11 (r9.map api_Tx.cs), lst 83 18 u7 (r5.map exposure_Row.cs)]) (R1 := fun z58 => [rows 3 z00a (a0.Locks.map escrow_Lock.cs), rows 27 v01 (a1.map api_Event.cs)]) ?_ (fun z58 => ?_)
                · clear hj39
                  refine .seq ?_
                  refine .reg rfl ?_
                  refine .opp (P.fa .g7 fa_64_0 rfl) rfl ?_
                  refine .op (V.ld (v := N a0.Side) .t0 .k2 (.one isAgg3 rfl)) rfl ?_
                  refine .opp (P.bin .t0 .k .eql) rfl ?_
                  refine .nil ?_
                  refine .then ?_
                  refine .cond .t0 (fun c60 => ?_) (fun c60 => ?_)
                  · rw [if_pos c60] at hj59
                    refine .reg rfl ?_
                    refine .opp (P.fa .g1 fa_36_5 rfl) rfl ?_
                    refine .opp (P.fa .t0 fa_32_4 rfl) rfl ?_
                    refine .op (V.ld (v := N x43.Inv.Recv) .t0 .k0 (.one isAgg3 rfl)) rfl ?_
                    refine .opp (P.bin .t0 .k .and) rfl ?_
                    refine .drop .k1 ?_
                    refine .opp (P.asg .t0) rfl ?_
                    refine .nil ?_
                    subst hj59
                    exact .stj () (.cons Mm.m0 (.cons Mm.m1 (.cons Mm.m2 (.cons Mm.m3 (.cons Mm.m4 (.cons Mm.m5 (.cons Mm.m6 (.cons Mm.m7 .nil)))))))) (.of (.cons .k0 (.cons .k0 (.cons .k0 (.cons .k0 (.cons .k0 .nil)))))) (.cons Mm.m0 (.cons Mm.m1 .nil))
                  · rw [if_neg (ne_true_of_eq_false c60)] at hj59
                    refine .skip ?_
                    subst hj59
                    exact .stj () (.cons Mm.m0 (.cons Mm.m1 (.cons Mm.m2 (.cons Mm.m3 (.cons Mm.m4 (.cons Mm.m5 (.cons Mm.m6 (.cons Mm.m7 .nil)))))))) (.of (.cons .k0 (.cons .k0 (.cons .k0 (.cons .k0 (.cons .k0 .nil)))))) (.cons Mm.m0 (.cons Mm.m1 .nil))
                · clear hj59
                  refine .seq ?_
                  refine .draw 8 (.on 0 .pu (.on 1 .pu (.on 2 .pu (.on 3 .pu (.on 5 .pu (.on 6 .pu (.on 12 .pu (.on 4 .ld (.on 7 .ld (.on 8 .go (.on 9 .pu (.on 10 .pu (.on 11 .pu (.on 13 .pu (.on 14 .go .nl))))))))))))))) follows_mixed (.thn (.inb (.thn (.thn (.inb (.thn (.inb (.thn (.thn (.inb (.thn .body))))))))))) (by kernel_rfl) ?_
                  refine .dpu rfl (.n rfl) (P.mov .g0) rfl rfl ?_
                  refine .dpu rfl (.n rfl) (P.mov .t1) rfl rfl ?_
                  refine .dpu rfl (.n rfl) (P.fa .g4 fa_83_2 rfl) rfl rfl ?_
                  obtain ⟨x61, hx62, hj39⟩ := bnd_eq hj39
                  obtain ⟨i63, hi64, hx62⟩ := at_eq hx62
                  have hi64_ : (y57).toNat = i63 := by rw [hi64]; rfl
                  refine .dpu rfl (.n rfl) (P.iad (i := i63) (off' := (9 + i63 * 4)) .t1 hi64 .t0 runUnderlying54 sizeOf27 (lt_of_get hx62) rfl) rfl rfl ?_
                  refine .dpu rfl (.n rfl) (P.fa .t2 fa_36_6 rfl) rfl rfl ?_
                  refine .dpu rfl (.n rfl) (P.fa .t0 fa_34_0 rfl) rfl rfl ?_
                  refine .dpu rfl (.n rfl) (P.fa .g4 fa_83_2 rfl) rfl rfl ?_
                  refine .dld rfl (.n rfl) (V.ld (v := Ag (api_Wide.cs x61)) .t2 .k1 (by rcases i63 with _ | _ | _ <;> first | (obtain rfl := Option.some.inj hx62; exact LdV.agg isAgg27 sizeOf27 rfl rfl) | (cases hx62; done))) (fun _ h => h) rfl rfl ?_
                  refine .dld rfl (.n rfl) (V.ld (v := Ag (api_Wide.cs x43.Var.Amount)) .t2 .k0 (.agg isAgg27 sizeOf27 rfl rfl)) (fun _ h => h) rfl rfl ?_
                  obtain ⟨r65, hr66, hj39⟩ := bnd_eq hj39
                  refine .dgo rfl (.n rfl) (G.call call23 (.cons .t1 (.cons .t0 .nil)) (S_narrowsref01_Add x61 x43.Var.Amount r65 hr66) .nil .nil (fun _ _ => rfl) (fun _ _ => rfl) rfl) (.inl rfl) fun _ _ => ?_
                  refine .dpu rfl (.n rfl) (P.mov .t0) rfl rfl ?_
                  refine .dpu rfl (.n rfl) (P.ext (v := Ag (api_Wide.cs r65.1)) .g0 rfl) rfl rfl ?_
                  refine .dpu0 rfl (.n rfl) (P.ext (v := Bo r65.2) .t1 rfl) rfl rfl ?_
                  obtain ⟨x67, hx68, hj39⟩ := bnd_eq hj39
                  obtain ⟨i69, hi70, hx68⟩ := at_eq hx68
                  have hi70_ : (y57).toNat = i69 := by rw [hi70]; rfl
                  refine .dpu rfl (.n rfl) (P.iad (i := i69) (off' := (9 + i69 * 4)) .t2 hi70 .t1 runUnderlying54 sizeOf27 (lt_of_get hx68) rfl) rfl rfl ?_
                  refine .dgo rfl (.n rfl) (G.str (cs' := (exposure_Row.cs ⟨s12, x22, A2_api_Wide.set s27.2.1 i69 r65.1, s27.2.2⟩)) .t1 .t0 .k1 (by rcases i69 with _ | _ | _ <;> first | (obtain rfl := Option.some.inj hx68; exact StV.mk sizeOf27 rfl rfl rfl rfl) | (cases hx68; done))) (.inl rfl) fun _ _ => ?_
                  refine .conseq .k0 (q := blk b26 83 (exposure_Row.cs ⟨s12, x22, A2_api_Wide.set s27.2.1 (y57).toNat r65.1, s27.2.2⟩)) (fun _ h_ => by rw [hi70_]; exact h_) ?_
                  refine .dnil ?_
                  refine .then ?_
                  refine .reg rfl ?_
                  refine .opp (P.fa .g1 fa_83_3 rfl) rfl ?_
                  refine .op (V.ld (v := N s27.2.2) .t0 .k0 (.one isAgg3 rfl)) rfl ?_
                  refine .opp (P.bin .t0 .k .add) rfl ?_
                  refine .opp (P.fa .g2 fa_83_3 rfl) rfl ?_
                  refine .opg (G.str .t1 .t0 .k0 (.mk (cs' := (exposure_Row.cs ⟨s12, x22, A2_api_Wide.set s27.2.1 (y57).toNat r65.1, IntKind.i64.wrap (s27.2.2 + 1)⟩)) sizeOf3 rfl rfl rfl rfl)) rfl fun _ _ => ?_
                  refine .nil ?_
                  refine .inn ?_
                  cases hj39
                  exact .stj () (.cons Mm.m0 (.cons Mm.m1 (.cons Mm.m2 (.cons Mm.m3 (.cons Mm.m4 (.cons Mm.m5 .nil)))))) (.of (.cons .k0 (.cons .k1 (.cons .k1 (.cons .k1 .nil))))) (.cons Mm.m0 (.cons Mm.m1 .nil))
          · clear hj39
            refine .reg rfl ?_
            refine .opp (P.mov .g0) rfl ?_
            refine .opp (P.bin .t0 .k .add) rfl ?_
            refine .drop .k1 ?_
            refine .opp (P.asg .t0) rfl ?_
            refine .nil ?_
            cases hc31
            obtain ⟨m71, hm72, hn32⟩ := hn32
            exact .rdW ((IntKind.i64.wrap (s27.1 + 1), y37.1, y37.2)) () hm72 hn32 (.cons Mm.m0 (.cons Mm.m1 (.cons Mm.m2 (.cons Mm.m3 (.cons Mm.m4 (.cons Mm.m5 .nil)))))) (.of (.cons .k0 (.cons .k0 (.cons .k0 (.cons .k0 .nil))))) (.cons Mm.m0 (.cons Mm.m1 .nil))
        · rw [if_neg (ne_true_of_eq_false c36)] at hc31
          refine .exit ?_
          refine .thx ?_
          cases hc31
          refine .told (γ := Unit) hc16 hn32 (fun (s27 : Int × A2_api_Wide × Int) _ => [(9, N s27.1), (8, pt b26 0), (7, N s12), (6, u11), (5, u7), (2, pt b1 0)]) (fun (s27 : Int × A2_api_Wide × Int) _ => [blk b26 83 (exposure_Row.cs ⟨s12, x22, s27.2.1, s27.2.2⟩), blk b1 64 (escrow_State.cs a0 z00a), lst 36 25 u11 (r9.map api_Tx.cs), lst 83 18 u7 (r5.map exposure_Row.cs)]) (fun (s27 : Int × A2_api_Wide × Int) _ => [rows 3 z00a (a0.Locks.map escrow_Lock.cs), rows 27 v01 (a1.map api_Event.cs)]) () (.cons Mm.m0 (.cons Mm.m1 (.cons Mm.m2 (.cons Mm.m3 (.cons Mm.m4 (.cons Mm.m5 .nil)))))) (.of (.cons .k0 (.cons .k0 (.cons .k0 (.cons .k0 .nil))))) (.cons Mm.m0 (.cons Mm.m1 .nil)) (fun s27 _ hc16' => ?_)
          replace hc16 := hc16'
          refine .thx ?_
          refine .inb ?_
          refine .then ?_
          refine .seq ?_
          refine .draw 7 (.on 0 .pu (.on 1 .pu (.on 2 .pu (.on 3 .pu (.on 4 .ld (.on 5 .ld (.on 6 .pu .nl))))))) follows_mixed (.thn (.inb (.thn (.thn (.inb (.thn .body)))))) (by kernel_rfl) ?_
          refine .dpu rfl (.n rfl) (P.mov .g4) rfl rfl ?_
          refine .dpu rfl (.n rfl) (P.mov .g3) rfl rfl ?_
          refine .dpu rfl (.n rfl) (P.bin .t0 .k .sub) rfl rfl ?_
          obtain ⟨x76, hx77, hc16⟩ := bnd_eq hc16
          obtain ⟨i78, hi79, hx77⟩ := at_eq hx77
          have hi79_ : (IntKind.i64.wrap (s12 - 2)).toNat = i78 := by rw [hi79]; rfl
          refine .ixql .k3 (map_get hx77) fun p73 q74 hq75 => ?_
          refine .dpu rfl (.n rfl) (P.ixi (i := i78) .t0 hi79 .t0 hq75 runUnderlying78 sizeOf83) rfl rfl ?_
          refine .dld rfl (.n rfl) (V.ldxl0 (u := Ag (exposure_Row.cs x76)) .t0 hq75 .k3 (map_get hx77) (.agg isAgg83 sizeOf83 rfl rfl)) (fun _ h => h) rfl rfl ?_
          refine .dld rfl (.n rfl) (V.ld (v := Ag (exposure_Row.cs ⟨s12, x22, s27.2.1, s27.2.2⟩)) .t2 .k0 (.agg isAgg83 sizeOf83 rfl rfl)) (fun _ h => h) rfl rfl ?_
          refine .dpu rfl (.n rfl) (P.bin .t1 .t0 (eq_83_neq _ _)) rfl rfl ?_
          refine .dnil ?_
          refine .then ?_
          refine .cond .t0 (fun c80 => ?_) (fun c80 => ?_)
          · rw [if_pos c80] at hc16
            refine .seq ?_
            refine .reg rfl ?_
            refine .opp (P.asg .k) rfl ?_
            refine .nil ?_
            refine .then ?_
            refine .ret ?_
            refine .inr ?_
            refine .thr ?_
            obtain ⟨x81, hx82, rfl⟩ := map_rt hc16
            obtain rfl := hn17
            obtain rfl := rt_on h
            refine .thr ?_
            refine .inr ?_
            refine .thr ?_
            cases hx82
            exact .finw () (.r1 rfl (.tmp .g0)) trivial (Ls.of .nil) .nil
          · rw [if_neg (ne_true_of_eq_false c80)] at hc16
            refine .skip ?_
            refine .inn ?_
            refine .then ?_
            refine .reg rfl ?_
            refine .opp (P.mov .g1) rfl ?_
            refine .opp (P.bin .t0 .k .add) rfl ?_
            refine .drop .k2 ?_
            refine .opp (P.asg .t0) rfl ?_
            refine .nil ?_
            cases hc16
            obtain ⟨m83, hm84, hn17⟩ := hn17
            exact .rdW (IntKind.i64.wrap (s12 + 1)) () hm84 hn17 (.cons Mm.m0 (.cons Mm.m2 (.cons Mm.m3 (.cons Mm.m4 .nil)))) (.of (.cons .k1 (.cons .k1 (.cons .k1 .nil)))) (.cons Mm.m0 (.cons Mm.m1 .nil))
      · rw [if_neg (ne_true_of_eq_false c21)] at hc16
        refine .exit ?_
        refine .thx ?_
        cases hc16
        refine .told (γ := Unit) h hn17 (fun (s12 : Int) _ => [(7, N s12), (6, u11), (5, u7), (2, pt b1 0)]) (fun (s12 : Int) _ => [blk b1 64 (escrow_State.cs a0 z00a), lst 36 25 u11 (r9.map api_Tx.cs), lst 83 18 u7 (r5.map exposure_Row.cs)]) (fun (s12 : Int) _ => [rows 3 z00a (a0.Locks.map escrow_Lock.cs), rows 27 v01 (a1.map api_Event.cs)]) () (.cons Mm.m0 (.cons Mm.m1 (.cons Mm.m2 (.cons Mm.m3 .nil)))) (.of (.cons .k0 (.cons .k0 (.cons .k0 .nil)))) (.cons Mm.m0 (.cons Mm.m1 .nil)) (fun s12 _ h' => ?_)
        replace h := h'
        refine .thx ?_
        refine .inb ?_
        refine .then ?_
        refine .seq ?_
        refine .reg rfl ?_
        refine .opp (P.asg .k) rfl ?_
        refine .nil ?_
        refine .then ?_
        refine .ret ?_
        cases h
        exact .finw () (.r1 rfl (.tmp .g0)) trivial (Ls.of .nil) .nil
attribute [irreducible] narrowslaw38_ExposureTells
end Go.Sl
