/- Walked code of the program, its pure functions and their contracts. -/
import Derived.Test.YteijfoldbinghaaGreatProg
import Derived.Test.YteijfoldbinghaaGreatSlDel
set_option linter.unusedVariables false
set_option linter.unusedSimpArgs false
namespace Go.Sl
open Go.Proofs Go.Proofs.Tryz
theorem follows_mixed : Tryz.prog.follows .mixedOrders = true := by kernel_rfl
abbrev mustCh (e : Int) : List PanicEntry := [{ v := .iface 111 (Ag [N e]), recovered := false }]
structure api_Wide where
  a0 : UInt64
  a1 : UInt64
  a2 : UInt64
  a3 : UInt64
  deriving DecidableEq
def api_Wide.cs (x : api_Wide) : List Value := [U x.a0, U x.a1, U x.a2, U x.a3]
def api_Wide.list (x : api_Wide) : List UInt64 := [x.a0, x.a1, x.a2, x.a3]
def api_Wide.set (x : api_Wide) (k : Nat) (v : UInt64) : api_Wide := ⟨if k = 0 then v else x.a0, if k = 1 then v else x.a1, if k = 2 then v else x.a2, if k = 3 then v else x.a3⟩
def api_Wide.z : api_Wide := ⟨0, 0, 0, 0⟩
structure api_Inv where
  User : Int
  Root : ByteArray
  Router : Int
  Send : Int
  Recv : Int
  To : Int
  Id : ByteArray
  deriving DecidableEq
def api_Inv.cs (x : api_Inv) : List Value := [N x.User, .string x.Root, N x.Router, N x.Send, N x.Recv, N x.To, .string x.Id]
def api_Inv.z : api_Inv := ⟨0, ⟨#[]⟩, 0, 0, 0, 0, ⟨#[]⟩⟩
structure api_Var where
  Amount : api_Wide
  Expiry : Int
  deriving DecidableEq
def api_Var.cs (x : api_Var) : List Value := [U x.Amount.a0, U x.Amount.a1, U x.Amount.a2, U x.Amount.a3, N x.Expiry]
def api_Var.z : api_Var := ⟨api_Wide.z, 0⟩
structure api_Tx where
  From : Int
  Nonce : Int
  Kind : Int
  Asset : Int
  Amount : api_Wide
  Inv : api_Inv
  Var : api_Var
  Fee : api_Wide
  Sig : ByteArray
  deriving DecidableEq
def api_Tx.cs (x : api_Tx) : List Value := [N x.From, N x.Nonce, N x.Kind, N x.Asset, U x.Amount.a0, U x.Amount.a1, U x.Amount.a2, U x.Amount.a3, N x.Inv.User, .string x.Inv.Root, N x.Inv.Router, N x.Inv.Send, N x.Inv.Recv, N x.Inv.To, .string x.Inv.Id, U x.Var.Amount.a0, U x.Var.Amount.a1, U x.Var.Amount.a2, U x.Var.Amount.a3, N x.Var.Expiry, U x.Fee.a0, U x.Fee.a1, U x.Fee.a2, U x.Fee.a3, .string x.Sig]
def api_Tx.z : api_Tx := ⟨0, 0, 0, 0, api_Wide.z, api_Inv.z, api_Var.z, api_Wide.z, ⟨#[]⟩⟩
structure api_Event where
  Time : Int
  Code : Int
  Tx : api_Tx
  deriving DecidableEq
def api_Event.cs (x : api_Event) : List Value := [N x.Time, N x.Code, N x.Tx.From, N x.Tx.Nonce, N x.Tx.Kind, N x.Tx.Asset, U x.Tx.Amount.a0, U x.Tx.Amount.a1, U x.Tx.Amount.a2, U x.Tx.Amount.a3, N x.Tx.Inv.User, .string x.Tx.Inv.Root, N x.Tx.Inv.Router, N x.Tx.Inv.Send, N x.Tx.Inv.Recv, N x.Tx.Inv.To, .string x.Tx.Inv.Id, U x.Tx.Var.Amount.a0, U x.Tx.Var.Amount.a1, U x.Tx.Var.Amount.a2, U x.Tx.Var.Amount.a3, N x.Tx.Var.Expiry, U x.Tx.Fee.a0, U x.Tx.Fee.a1, U x.Tx.Fee.a2, U x.Tx.Fee.a3, .string x.Tx.Sig]
def api_Event.z : api_Event := ⟨0, 0, api_Tx.z⟩
structure history_Line where
  Time : Int
  Kind : Int
  In : api_Wide
  Out : api_Wide
  deriving DecidableEq
def history_Line.cs (x : history_Line) : List Value := [N x.Time, N x.Kind, U x.In.a0, U x.In.a1, U x.In.a2, U x.In.a3, U x.Out.a0, U x.Out.a1, U x.Out.a2, U x.Out.a3]
def history_Line.z : history_Line := ⟨0, 0, api_Wide.z, api_Wide.z⟩
structure history_teller where
  side : Int
  account : Int
  asset : Int
  line : history_Line
  deriving DecidableEq
def history_teller.cs (x : history_teller) : List Value := [N x.side, N x.account, N x.asset, N x.line.Time, N x.line.Kind, U x.line.In.a0, U x.line.In.a1, U x.line.In.a2, U x.line.In.a3, U x.line.Out.a0, U x.line.Out.a1, U x.line.Out.a2, U x.line.Out.a3]
def history_teller.z : history_teller := ⟨0, 0, 0, history_Line.z⟩
structure A2_api_Wide where
  a0 : api_Wide
  a1 : api_Wide
  deriving DecidableEq
def A2_api_Wide.cs (x : A2_api_Wide) : List Value := [U x.a0.a0, U x.a0.a1, U x.a0.a2, U x.a0.a3, U x.a1.a0, U x.a1.a1, U x.a1.a2, U x.a1.a3]
def A2_api_Wide.list (x : A2_api_Wide) : List api_Wide := [x.a0, x.a1]
def A2_api_Wide.set (x : A2_api_Wide) (k : Nat) (v : api_Wide) : A2_api_Wide := ⟨if k = 0 then v else x.a0, if k = 1 then v else x.a1⟩
def A2_api_Wide.z : A2_api_Wide := ⟨api_Wide.z, api_Wide.z⟩
structure purse_Book where
  a0 : A2_api_Wide
  a1 : A2_api_Wide
  a2 : A2_api_Wide
  a3 : A2_api_Wide
  a4 : A2_api_Wide
  a5 : A2_api_Wide
  a6 : A2_api_Wide
  a7 : A2_api_Wide
  deriving DecidableEq
def purse_Book.cs (x : purse_Book) : List Value := [U x.a0.a0.a0, U x.a0.a0.a1, U x.a0.a0.a2, U x.a0.a0.a3, U x.a0.a1.a0, U x.a0.a1.a1, U x.a0.a1.a2, U x.a0.a1.a3, U x.a1.a0.a0, U x.a1.a0.a1, U x.a1.a0.a2, U x.a1.a0.a3, U x.a1.a1.a0, U x.a1.a1.a1, U x.a1.a1.a2, U x.a1.a1.a3, U x.a2.a0.a0, U x.a2.a0.a1, U x.a2.a0.a2, U x.a2.a0.a3, U x.a2.a1.a0, U x.a2.a1.a1, U x.a2.a1.a2, U x.a2.a1.a3, U x.a3.a0.a0, U x.a3.a0.a1, U x.a3.a0.a2, U x.a3.a0.a3, U x.a3.a1.a0, U x.a3.a1.a1, U x.a3.a1.a2, U x.a3.a1.a3, U x.a4.a0.a0, U x.a4.a0.a1, U x.a4.a0.a2, U x.a4.a0.a3, U x.a4.a1.a0, U x.a4.a1.a1, U x.a4.a1.a2, U x.a4.a1.a3, U x.a5.a0.a0, U x.a5.a0.a1, U x.a5.a0.a2, U x.a5.a0.a3, U x.a5.a1.a0, U x.a5.a1.a1, U x.a5.a1.a2, U x.a5.a1.a3, U x.a6.a0.a0, U x.a6.a0.a1, U x.a6.a0.a2, U x.a6.a0.a3, U x.a6.a1.a0, U x.a6.a1.a1, U x.a6.a1.a2, U x.a6.a1.a3, U x.a7.a0.a0, U x.a7.a0.a1, U x.a7.a0.a2, U x.a7.a0.a3, U x.a7.a1.a0, U x.a7.a1.a1, U x.a7.a1.a2, U x.a7.a1.a3]
def purse_Book.list (x : purse_Book) : List A2_api_Wide := [x.a0, x.a1, x.a2, x.a3, x.a4, x.a5, x.a6, x.a7]
def purse_Book.set (x : purse_Book) (k : Nat) (v : A2_api_Wide) : purse_Book := ⟨if k = 0 then v else x.a0, if k = 1 then v else x.a1, if k = 2 then v else x.a2, if k = 3 then v else x.a3, if k = 4 then v else x.a4, if k = 5 then v else x.a5, if k = 6 then v else x.a6, if k = 7 then v else x.a7⟩
def purse_Book.z : purse_Book := ⟨A2_api_Wide.z, A2_api_Wide.z, A2_api_Wide.z, A2_api_Wide.z, A2_api_Wide.z, A2_api_Wide.z, A2_api_Wide.z, A2_api_Wide.z⟩
structure A8_i64 where
  a0 : Int
  a1 : Int
  a2 : Int
  a3 : Int
  a4 : Int
  a5 : Int
  a6 : Int
  a7 : Int
  deriving DecidableEq
def A8_i64.cs (x : A8_i64) : List Value := [N x.a0, N x.a1, N x.a2, N x.a3, N x.a4, N x.a5, N x.a6, N x.a7]
def A8_i64.list (x : A8_i64) : List Int := [x.a0, x.a1, x.a2, x.a3, x.a4, x.a5, x.a6, x.a7]
def A8_i64.set (x : A8_i64) (k : Nat) (v : Int) : A8_i64 := ⟨if k = 0 then v else x.a0, if k = 1 then v else x.a1, if k = 2 then v else x.a2, if k = 3 then v else x.a3, if k = 4 then v else x.a4, if k = 5 then v else x.a5, if k = 6 then v else x.a6, if k = 7 then v else x.a7⟩
def A8_i64.z : A8_i64 := ⟨0, 0, 0, 0, 0, 0, 0, 0⟩
structure escrow_Lock where
  Key : ByteArray
  Digest : ByteArray
  Status : Int
  deriving DecidableEq
def escrow_Lock.cs (x : escrow_Lock) : List Value := [.string x.Key, .string x.Digest, N x.Status]
def escrow_Lock.z : escrow_Lock := ⟨⟨#[]⟩, ⟨#[]⟩, 0⟩
structure escrow_State where
  Side : Int
  Time : Int
  Purse : purse_Book
  Vault : purse_Book
  Nonces : A8_i64
  Held : A2_api_Wide
  Burnt : api_Wide
  Locks : List escrow_Lock
  deriving DecidableEq
def escrow_State.cs (x : escrow_State) (z0 : Value) : List Value := [N x.Side, N x.Time, U x.Purse.a0.a0.a0, U x.Purse.a0.a0.a1, U x.Purse.a0.a0.a2, U x.Purse.a0.a0.a3, U x.Purse.a0.a1.a0, U x.Purse.a0.a1.a1, U x.Purse.a0.a1.a2, U x.Purse.a0.a1.a3, U x.Purse.a1.a0.a0, U x.Purse.a1.a0.a1, U x.Purse.a1.a0.a2, U x.Purse.a1.a0.a3, U x.Purse.a1.a1.a0, U x.Purse.a1.a1.a1, U x.Purse.a1.a1.a2, U x.Purse.a1.a1.a3, U x.Purse.a2.a0.a0, U x.Purse.a2.a0.a1, U x.Purse.a2.a0.a2, U x.Purse.a2.a0.a3, U x.Purse.a2.a1.a0, U x.Purse.a2.a1.a1, U x.Purse.a2.a1.a2, U x.Purse.a2.a1.a3, U x.Purse.a3.a0.a0, U x.Purse.a3.a0.a1, U x.Purse.a3.a0.a2, U x.Purse.a3.a0.a3, U x.Purse.a3.a1.a0, U x.Purse.a3.a1.a1, U x.Purse.a3.a1.a2, U x.Purse.a3.a1.a3, U x.Purse.a4.a0.a0, U x.Purse.a4.a0.a1, U x.Purse.a4.a0.a2, U x.Purse.a4.a0.a3, U x.Purse.a4.a1.a0, U x.Purse.a4.a1.a1, U x.Purse.a4.a1.a2, U x.Purse.a4.a1.a3, U x.Purse.a5.a0.a0, U x.Purse.a5.a0.a1, U x.Purse.a5.a0.a2, U x.Purse.a5.a0.a3, U x.Purse.a5.a1.a0, U x.Purse.a5.a1.a1, U x.Purse.a5.a1.a2, U x.Purse.a5.a1.a3, U x.Purse.a6.a0.a0, U x.Purse.a6.a0.a1, U x.Purse.a6.a0.a2, U x.Purse.a6.a0.a3, U x.Purse.a6.a1.a0, U x.Purse.a6.a1.a1, U x.Purse.a6.a1.a2, U x.Purse.a6.a1.a3, U x.Purse.a7.a0.a0, U x.Purse.a7.a0.a1, U x.Purse.a7.a0.a2, U x.Purse.a7.a0.a3, U x.Purse.a7.a1.a0, U x.Purse.a7.a1.a1, U x.Purse.a7.a1.a2, U x.Purse.a7.a1.a3, U x.Vault.a0.a0.a0, U x.Vault.a0.a0.a1, U x.Vault.a0.a0.a2, U x.Vault.a0.a0.a3, U x.Vault.a0.a1.a0, U x.Vault.a0.a1.a1, U x.Vault.a0.a1.a2, U x.Vault.a0.a1.a3, U x.Vault.a1.a0.a0, U x.Vault.a1.a0.a1, U x.Vault.a1.a0.a2, U x.Vault.a1.a0.a3, U x.Vault.a1.a1.a0, U x.Vault.a1.a1.a1, U x.Vault.a1.a1.a2, U x.Vault.a1.a1.a3, U x.Vault.a2.a0.a0, U x.Vault.a2.a0.a1, U x.Vault.a2.a0.a2, U x.Vault.a2.a0.a3, U x.Vault.a2.a1.a0, U x.Vault.a2.a1.a1, U x.Vault.a2.a1.a2, U x.Vault.a2.a1.a3, U x.Vault.a3.a0.a0, U x.Vault.a3.a0.a1, U x.Vault.a3.a0.a2, U x.Vault.a3.a0.a3, U x.Vault.a3.a1.a0, U x.Vault.a3.a1.a1, U x.Vault.a3.a1.a2, U x.Vault.a3.a1.a3, U x.Vault.a4.a0.a0, U x.Vault.a4.a0.a1, U x.Vault.a4.a0.a2, U x.Vault.a4.a0.a3, U x.Vault.a4.a1.a0, U x.Vault.a4.a1.a1, U x.Vault.a4.a1.a2, U x.Vault.a4.a1.a3, U x.Vault.a5.a0.a0, U x.Vault.a5.a0.a1, U x.Vault.a5.a0.a2, U x.Vault.a5.a0.a3, U x.Vault.a5.a1.a0, U x.Vault.a5.a1.a1, U x.Vault.a5.a1.a2, U x.Vault.a5.a1.a3, U x.Vault.a6.a0.a0, U x.Vault.a6.a0.a1, U x.Vault.a6.a0.a2, U x.Vault.a6.a0.a3, U x.Vault.a6.a1.a0, U x.Vault.a6.a1.a1, U x.Vault.a6.a1.a2, U x.Vault.a6.a1.a3, U x.Vault.a7.a0.a0, U x.Vault.a7.a0.a1, U x.Vault.a7.a0.a2, U x.Vault.a7.a0.a3, U x.Vault.a7.a1.a0, U x.Vault.a7.a1.a1, U x.Vault.a7.a1.a2, U x.Vault.a7.a1.a3, N x.Nonces.a0, N x.Nonces.a1, N x.Nonces.a2, N x.Nonces.a3, N x.Nonces.a4, N x.Nonces.a5, N x.Nonces.a6, N x.Nonces.a7, U x.Held.a0.a0, U x.Held.a0.a1, U x.Held.a0.a2, U x.Held.a0.a3, U x.Held.a1.a0, U x.Held.a1.a1, U x.Held.a1.a2, U x.Held.a1.a3, U x.Burnt.a0, U x.Burnt.a1, U x.Burnt.a2, U x.Burnt.a3, z0]
def escrow_State.g (x : escrow_State) (z : Value) : Asn := rows 3 z (x.Locks.map escrow_Lock.cs)
def escrow_State.z : escrow_State := ⟨0, 0, purse_Book.z, purse_Book.z, A8_i64.z, A2_api_Wide.z, api_Wide.z, []⟩
theorem fa_32_0 : FaV Tryz.prog 32 0 0 := .mk runUnderlying32 rfl sizeOf3 rfl rfl
theorem fa_32_3 : FaV Tryz.prog 32 3 3 := .mk runUnderlying32 rfl sizeOf3 rfl rfl
theorem fa_32_4 : FaV Tryz.prog 32 4 4 := .mk runUnderlying32 rfl sizeOf3 rfl rfl
theorem fa_32_5 : FaV Tryz.prog 32 5 5 := .mk runUnderlying32 rfl sizeOf3 rfl rfl
theorem fa_34_0 : FaV Tryz.prog 34 0 0 := .mk runUnderlying34 rfl sizeOf30 rfl rfl
theorem fa_36_0 : FaV Tryz.prog 36 0 0 := .mk runUnderlying36 rfl sizeOf3 rfl rfl
theorem fa_36_2 : FaV Tryz.prog 36 2 2 := .mk runUnderlying36 rfl sizeOf3 rfl rfl
theorem fa_36_3 : FaV Tryz.prog 36 3 3 := .mk runUnderlying36 rfl sizeOf3 rfl rfl
theorem fa_36_4 : FaV Tryz.prog 36 4 4 := .mk runUnderlying36 rfl sizeOf30 rfl rfl
theorem fa_36_5 : FaV Tryz.prog 36 5 8 := .mk runUnderlying36 rfl sizeOf32 rfl rfl
theorem fa_36_6 : FaV Tryz.prog 36 6 15 := .mk runUnderlying36 rfl sizeOf34 rfl rfl
theorem fa_36_7 : FaV Tryz.prog 36 7 20 := .mk runUnderlying36 rfl sizeOf30 rfl rfl
theorem fa_70_0 : FaV Tryz.prog 70 0 0 := .mk runUnderlying70 rfl sizeOf3 rfl rfl
theorem fa_70_1 : FaV Tryz.prog 70 1 1 := .mk runUnderlying70 rfl sizeOf63 rfl rfl
theorem fa_70_2 : FaV Tryz.prog 70 2 2 := .mk runUnderlying70 rfl sizeOf36 rfl rfl
theorem fa_87_2 : FaV Tryz.prog 87 2 2 := .mk runUnderlying87 rfl sizeOf30 rfl rfl
theorem fa_87_3 : FaV Tryz.prog 87 3 6 := .mk runUnderlying87 rfl sizeOf30 rfl rfl
theorem fa_105_0 : FaV Tryz.prog 105 0 0 := .mk runUnderlying105 rfl sizeOf3 rfl rfl
theorem fa_105_1 : FaV Tryz.prog 105 1 1 := .mk runUnderlying105 rfl sizeOf3 rfl rfl
theorem fa_105_2 : FaV Tryz.prog 105 2 2 := .mk runUnderlying105 rfl sizeOf3 rfl rfl
theorem fa_105_3 : FaV Tryz.prog 105 3 3 := .mk runUnderlying105 rfl sizeOf87 rfl rfl
theorem fn_53 : Extern.findNext f53 = none := by kernel_rfl
theorem find_53 : Extern.find f53 = some sub64Entry := by kernel_rfl
theorem fn_55 : Extern.findNext f55 = none := by kernel_rfl
theorem find_55 : Extern.find f55 = some add64Entry := by kernel_rfl
theorem pl_87 : ∀ w, ((#[{ name := "Time", type := 3, offset := 0, embedded := false, tag := "", pkgPath := "", byteOffset := 0 }, { name := "Kind", type := 3, offset := 1, embedded := false, tag := "", pkgPath := "", byteOffset := 8 }, { name := "In", type := 30, offset := 2, embedded := false, tag := "", pkgPath := "", byteOffset := 16 }, { name := "Out", type := 30, offset := 6, embedded := false, tag := "", pkgPath := "", byteOffset := 48 }] : Array Field).mapM fun f => do pure (f.offset, ← sizeOf f.type) : Sem (Array (Nat × Nat))).run Tryz.prog w = .ok #[(0, 1), (1, 1), (2, 4), (6, 4)] w := fun w => by simp [sizeOf3, sizeOf30]
theorem pl_105 : ∀ w, ((#[{ name := "side", type := 3, offset := 0, embedded := false, tag := "", pkgPath := "narrows/history", byteOffset := 0 }, { name := "account", type := 3, offset := 1, embedded := false, tag := "", pkgPath := "narrows/history", byteOffset := 8 }, { name := "asset", type := 3, offset := 2, embedded := false, tag := "", pkgPath := "narrows/history", byteOffset := 16 }, { name := "line", type := 87, offset := 3, embedded := false, tag := "", pkgPath := "narrows/history", byteOffset := 24 }] : Array Field).mapM fun f => do pure (f.offset, ← sizeOf f.type) : Sem (Array (Nat × Nat))).run Tryz.prog w = .ok #[(0, 1), (1, 1), (2, 1), (3, 10)] w := fun w => by simp [sizeOf3, sizeOf87]
theorem one_30 (x : api_Wide) : oneAll (api_Wide.cs x) = true := rfl
theorem one_87 (x : history_Line) : oneAll (history_Line.cs x) = true := rfl
theorem eqv_30 (d : Nat) (x y : api_Wide) : EqV Tryz.prog (d + 2) 30 (Ag x.cs) (Ag y.cs) (decide (x = y)) :=
  EqV.cast (.array (by kernel_rfl) sizeOf28 (.cons (.one isAgg28 rfl) (.one isAgg28 rfl) (EqV.u (by kernel_rfl)) (.cons (.one isAgg28 rfl) (.one isAgg28 rfl) (EqV.u (by kernel_rfl)) (.cons (.one isAgg28 rfl) (.one isAgg28 rfl) (EqV.u (by kernel_rfl)) (.cons (.one isAgg28 rfl) (.one isAgg28 rfl) (EqV.u (by kernel_rfl)) .nil))))) (by cases x; cases y; rw [Bool.eq_iff_iff]; simp [api_Wide.mk.injEq, and_assoc])
theorem eq_30_eql (x y : api_Wide) : BinV Tryz.prog .eql 30 (Ag x.cs) (Ag y.cs) (Bo (decide (x = y))) := .eqv (by kernel_rfl) (eqv_30 9998 x y)
theorem eq_30_neq (x y : api_Wide) : BinV Tryz.prog .neq 30 (Ag x.cs) (Ag y.cs) (Bo (decide (x ≠ y))) := by
  have := BinV.neqv (P := Tryz.prog) (by kernel_rfl) (eqv_30 9998 x y); rw [← decide_not'] at this; exact this
noncomputable def wide_Of (a0 : UInt64) : api_Wide :=
  ⟨a0, 0, 0, 0⟩
set_option maxRecDepth 20000 in
set_option maxHeartbeats 1000000 in
theorem S_wide_Of (a0 : UInt64) (r : api_Wide) (h : wide_Of a0 = r) :
    SpecF Tryz.prog 36 [U a0] [] [] (fun z : Unit => True) (fun z => Ag (api_Wide.cs r)) (fun z M =>  M) (fun z M =>  M) := by
  refine .of func36 rfl ntmps36 rfl fun w0 D0 G0 => ?_
  unfold wide_Of at h
  refine .seq ?_
  refine .reg rfl ?_
  refine .opx (X.alc (cs := (api_Wide.cs ⟨0, 0, 0, 0⟩)) zeroValue30 rfl) rfl fun b1 => ?_
  refine .nil ?_
  refine .then ?_
  refine .seq ?_
  refine .reg rfl ?_
  refine .opp (P.mov .t1) rfl ?_
  refine .opp (P.bld (v := Ag (api_Wide.cs ⟨a0, 0, 0, 0⟩)) (.cons .t0 .nil) (bld_runA zeroValue30 runUnderlying30 sizeOf28 (by kernel_rfl))) rfl ?_
  refine .opg (G.str .t0 .g0 .k0 (.mk (cs' := (api_Wide.cs ⟨a0, 0, 0, 0⟩)) sizeOf30 rfl rfl rfl rfl)) rfl fun _ _ => ?_
  refine .nil ?_
  refine .then ?_
  refine .ret ?_
  subst h
  exact .finw () (.r1 rfl (.cell .g0 .k0 (.agg isAgg30 sizeOf30 rfl rfl))) trivial (Ls.of .nil) .nil
attribute [irreducible] wide_Of
noncomputable def wide_Add (a0 : api_Wide) (a1 : api_Wide) : api_Wide × Bool :=
  if (decide ((add64 a0.a3 a1.a3 (add64 a0.a2 a1.a2 (add64 a0.a1 a1.a1 (add64 a0.a0 a1.a0 0).2).2).2).2 ≠ 0)) = true then (⟨0, 0, 0, 0⟩, false) else ((⟨(add64 a0.a0 a1.a0 0).1, (add64 a0.a1 a1.a1 (add64 a0.a0 a1.a0 0).2).1, (add64 a0.a2 a1.a2 (add64 a0.a1 a1.a1 (add64 a0.a0 a1.a0 0).2).2).1, (add64 a0.a3 a1.a3 (add64 a0.a2 a1.a2 (add64 a0.a1 a1.a1 (add64 a0.a0 a1.a0 0).2).2).2).1⟩, true))
set_option maxRecDepth 20000 in
set_option maxHeartbeats 1000000 in
theorem S_wide_Add (a0 : api_Wide) (a1 : api_Wide) (r : api_Wide × Bool) (h : wide_Add a0 a1 = r) :
    SpecF Tryz.prog 47 [Ag (api_Wide.cs a0), Ag (api_Wide.cs a1)] [] [] (fun z : Unit => True) (fun z => Tu [Ag (api_Wide.cs r.1), Bo r.2]) (fun z M =>  M) (fun z M =>  M) := by
  refine .of func47 rfl ntmps47 rfl fun w0 D0 G0 => ?_
  unfold wide_Add at h
  refine .seq ?_
  refine .reg rfl ?_
  refine .opx (X.box (cs := (api_Wide.cs a0)) .t0 rfl) rfl fun b1 => ?_
  refine .opx (X.box (cs := (api_Wide.cs a1)) .t1 rfl) rfl fun b2 => ?_
  refine .opx (X.alc (cs := (api_Wide.cs ⟨0, 0, 0, 0⟩)) zeroValue30 rfl) rfl fun b3 => ?_
  refine .op0 (OpP.toV (P.asg .k)) rfl ?_
  refine .nil ?_
  refine .then ?_
  refine .seq ?_
  refine .reg rfl ?_
  refine .opx (X.alc (cs := (api_Wide.cs ⟨0, 0, 0, 0⟩)) zeroValue30 rfl) rfl fun b4 => ?_
  refine .nil ?_
  refine .then ?_
  refine .seq ?_
  refine .reg rfl ?_
  refine .opp (P.asg .k) rfl ?_
  refine .nil ?_
  refine .then ?_
  refine .seq ?_
  refine .seq ?_
  refine .reg rfl ?_
  refine .opp (P.mov .k) rfl ?_
  refine .nil ?_
  refine .then ?_
  refine .block ?_
  refine .rounds 5 ?_
  refine .rd ?_
  refine .seq ?_
  refine .reg rfl ?_
  refine .opp (P.bin (v := Bo true) .g0 .k (BinV.lss.boolc (by decide))) rfl ?_
  refine .nil ?_
  refine .then ?_
  refine .seq ?_
  refine .condT .t0 ?_
  refine .skip ?_
  refine .then ?_
  refine .seq ?_
  refine .block ?_
  refine .seq ?_
  refine .reg rfl ?_
  refine .opp (P.mov .g0) rfl ?_
  refine .opp (P.asg .t0) rfl ?_
  refine .nil ?_
  refine .then ?_
  refine .drawl [blk b3 30 (api_Wide.cs ⟨0, 0, 0, 0⟩), blk b2 30 (api_Wide.cs a1), blk b1 30 (api_Wide.cs a0)] [] (Ls.of (.cons .k1 (.cons .k1 (.cons .k1 .nil)))) Rs.nil 15 (.on 0 .pu (.on 1 .pu (.on 2 .pu (.on 4 .pu (.on 5 .pu (.on 7 .pu (.on 3 .ld (.on 6 .ld (.on 8 .pu (.on 9 .pu (.on 10 .pu (.on 11 .pu (.on 12 .pu (.on 13 .go (.on 14 .go .nl))))))))))))))) follows_mixed (.inb (.thn (.thn (.inb (.thn .body))))) (by kernel_rfl) ?_
  refine .dpu rfl (.n rfl) (P.mov .g0) rfl rfl ?_
  refine .dpu rfl (.n rfl) (P.mov .g1) rfl rfl ?_
  refine .dpu rfl (.n rfl) (P.iac (i := 0) .t0 rfl .g7 runUnderlying30 sizeOf28 rfl rfl) rfl rfl ?_
  refine .dpu rfl (.n rfl) (P.mov .t2) rfl rfl ?_
  refine .dpu rfl (.n rfl) (P.iac (i := 0) .t0 rfl .g6 runUnderlying30 sizeOf28 rfl rfl) rfl rfl ?_
  refine .dpu rfl (.n rfl) (P.mov .g4) rfl rfl ?_
  refine .dld rfl (.n rfl) (V.ld (v := U a0.a0) .t2 .k2 (.one isAgg28 rfl)) (fun _ h => (h.imp (Ls.of (.cons .k1 (.cons .k1 (.cons .k1 .nil))))).ro Rs.nil) rfl rfl ?_
  refine .dld rfl (.n rfl) (V.ld (v := U a1.a0) .t2 .k1 (.one isAgg28 rfl)) (fun _ h => (h.imp (Ls.of (.cons .k1 (.cons .k1 (.cons .k1 .nil))))).ro Rs.nil) rfl rfl ?_
  refine .dpu rfl (.n rfl) (P.extn (.cons .t1 (.cons .t0 (.cons .t0 .nil))) func55 rfl rfl fn_55 find_55 (run_add64u _ _ 0 zero_le1)) rfl rfl ?_
  refine .dpu rfl (.n rfl) (P.mov .t0) rfl rfl ?_
  refine .dpu rfl (.n rfl) (P.ext (v := U (add64 a0.a0 a1.a0 0).1) .g0 rfl) rfl rfl ?_
  refine .dpu rfl (.n rfl) (P.ext (v := U (add64 a0.a0 a1.a0 0).2) .t1 rfl) rfl rfl ?_
  refine .dpu rfl (.n rfl) (P.iac (i := 0) .t2 rfl .g4 runUnderlying30 sizeOf28 rfl rfl) rfl rfl ?_
  refine .dgo rfl (.n rfl) (G.str .t2 .t0 .k0 (.mk (cs' := (api_Wide.cs ⟨(add64 a0.a0 a1.a0 0).1, 0, 0, 0⟩)) sizeOf28 rfl rfl rfl rfl)) (.inr fun _ _ _ h => (h.imp (Ls.of (.cons .k1 (.cons .k1 (.cons .k1 .nil))))).ro Rs.nil) fun _ _ => ?_
  refine .drop .k2 ?_
  refine .dgo rfl (.n rfl) (OpV.g (OpP.toV (P.asg .t0)) rfl) (.inr fun _ _ _ h => (h.imp (Ls.of (.cons .k1 (.cons .k1 (.cons .k1 .nil))))).ro Rs.nil) fun _ _ => ?_
  refine .dnil ?_
  refine .inn ?_
  refine .then ?_
  refine .reg rfl ?_
  refine .opp (P.bin (v := N 1) .g1 .k (.addc (by decide))) rfl ?_
  refine .drop .k2 ?_
  refine .opp (P.mov .t0) rfl ?_
  refine .nil ?_
  refine .then ?_
  refine .rd ?_
  refine .seq ?_
  refine .reg rfl ?_
  refine .opp (P.bin (v := Bo true) .g0 .k (BinV.lss.boolc (by decide))) rfl ?_
  refine .nil ?_
  refine .then ?_
  refine .seq ?_
  refine .condT .t0 ?_
  refine .skip ?_
  refine .then ?_
  refine .seq ?_
  refine .block ?_
  refine .seq ?_
  refine .reg rfl ?_
  refine .opp (P.mov .g0) rfl ?_
  refine .opp (P.asg .t0) rfl ?_
  refine .nil ?_
  refine .then ?_
  refine .drawl [blk b3 30 (api_Wide.cs ⟨0, 0, 0, 0⟩), blk b2 30 (api_Wide.cs a1), blk b1 30 (api_Wide.cs a0)] [] (Ls.of (.cons .k1 (.cons .k1 (.cons .k1 .nil)))) Rs.nil 15 (.on 0 .pu (.on 1 .pu (.on 2 .pu (.on 4 .pu (.on 5 .pu (.on 7 .pu (.on 3 .ld (.on 6 .ld (.on 8 .pu (.on 9 .pu (.on 10 .pu (.on 11 .pu (.on 12 .pu (.on 13 .go (.on 14 .go .nl))))))))))))))) follows_mixed (.inb (.thn (.thn (.inb (.thn .body))))) (by kernel_rfl) ?_
  refine .dpu rfl (.n rfl) (P.mov .g0) rfl rfl ?_
  refine .dpu rfl (.n rfl) (P.mov .g1) rfl rfl ?_
  refine .dpu rfl (.n rfl) (P.iac (i := 1) .t0 rfl .g7 runUnderlying30 sizeOf28 rfl rfl) rfl rfl ?_
  refine .dpu rfl (.n rfl) (P.mov .t2) rfl rfl ?_
  refine .dpu rfl (.n rfl) (P.iac (i := 1) .t0 rfl .g6 runUnderlying30 sizeOf28 rfl rfl) rfl rfl ?_
  refine .dpu rfl (.n rfl) (P.mov .g4) rfl rfl ?_
  refine .dld rfl (.n rfl) (V.ld (v := U a0.a1) .t2 .k2 (.one isAgg28 rfl)) (fun _ h => (h.imp (Ls.of (.cons .k1 (.cons .k1 (.cons .k1 .nil))))).ro Rs.nil) rfl rfl ?_
  refine .dld rfl (.n rfl) (V.ld (v := U a1.a1) .t2 .k1 (.one isAgg28 rfl)) (fun _ h => (h.imp (Ls.of (.cons .k1 (.cons .k1 (.cons .k1 .nil))))).ro Rs.nil) rfl rfl ?_
  refine .dpu rfl (.n rfl) (P.extn (.cons .t1 (.cons .t0 (.cons .t0 .nil))) func55 rfl rfl fn_55 find_55 (run_add64u _ _ _ add64_le)) rfl rfl ?_
  refine .dpu rfl (.n rfl) (P.mov .t0) rfl rfl ?_
  refine .dpu rfl (.n rfl) (P.ext (v := U (add64 a0.a1 a1.a1 (add64 a0.a0 a1.a0 0).2).1) .g0 rfl) rfl rfl ?_
  refine .dpu rfl (.n rfl) (P.ext (v := U (add64 a0.a1 a1.a1 (add64 a0.a0 a1.a0 0).2).2) .t1 rfl) rfl rfl ?_
  refine .dpu rfl (.n rfl) (P.iac (i := 1) .t2 rfl .g4 runUnderlying30 sizeOf28 rfl rfl) rfl rfl ?_
  refine .dgo rfl (.n rfl) (G.str .t2 .t0 .k0 (.mk (cs' := (api_Wide.cs ⟨(add64 a0.a0 a1.a0 0).1, (add64 a0.a1 a1.a1 (add64 a0.a0 a1.a0 0).2).1, 0, 0⟩)) sizeOf28 rfl rfl rfl rfl)) (.inr fun _ _ _ h => (h.imp (Ls.of (.cons .k1 (.cons .k1 (.cons .k1 .nil))))).ro Rs.nil) fun _ _ => ?_
  refine .drop .k2 ?_
  refine .dgo rfl (.n rfl) (OpV.g (OpP.toV (P.asg .t0)) rfl) (.inr fun _ _ _ h => (h.imp (Ls.of (.cons .k1 (.cons .k1 (.cons .k1 .nil))))).ro Rs.nil) fun _ _ => ?_
  refine .dnil ?_
  refine .inn ?_
  refine .then ?_
  refine .reg rfl ?_
  refine .opp (P.bin (v := N 2) .g1 .k (.addc (by decide))) rfl ?_
  refine .drop .k2 ?_
  refine .opp (P.mov .t0) rfl ?_
  refine .nil ?_
  refine .then ?_
  refine .rd ?_
  refine .seq ?_
  refine .reg rfl ?_
  refine .opp (P.bin (v := Bo true) .g0 .k (BinV.lss.boolc (by decide))) rfl ?_
  refine .nil ?_
  refine .then ?_
  refine .seq ?_
  refine .condT .t0 ?_
  refine .skip ?_
  refine .then ?_
  refine .seq ?_
  refine .block ?_
  refine .seq ?_
  refine .reg rfl ?_
  refine .opp (P.mov .g0) rfl ?_
  refine .opp (P.asg .t0) rfl ?_
  refine .nil ?_
  refine .then ?_
  refine .drawl [blk b3 30 (api_Wide.cs ⟨0, 0, 0, 0⟩), blk b2 30 (api_Wide.cs a1), blk b1 30 (api_Wide.cs a0)] [] (Ls.of (.cons .k1 (.cons .k1 (.cons .k1 .nil)))) Rs.nil 15 (.on 0 .pu (.on 1 .pu (.on 2 .pu (.on 4 .pu (.on 5 .pu (.on 7 .pu (.on 3 .ld (.on 6 .ld (.on 8 .pu (.on 9 .pu (.on 10 .pu (.on 11 .pu (.on 12 .pu (.on 13 .go (.on 14 .go .nl))))))))))))))) follows_mixed (.inb (.thn (.thn (.inb (.thn .body))))) (by kernel_rfl) ?_
  refine .dpu rfl (.n rfl) (P.mov .g0) rfl rfl ?_
  refine .dpu rfl (.n rfl) (P.mov .g1) rfl rfl ?_
  refine .dpu rfl (.n rfl) (P.iac (i := 2) .t0 rfl .g7 runUnderlying30 sizeOf28 rfl rfl) rfl rfl ?_
  refine .dpu rfl (.n rfl) (P.mov .t2) rfl rfl ?_
  refine .dpu rfl (.n rfl) (P.iac (i := 2) .t0 rfl .g6 runUnderlying30 sizeOf28 rfl rfl) rfl rfl ?_
  refine .dpu rfl (.n rfl) (P.mov .g4) rfl rfl ?_
  refine .dld rfl (.n rfl) (V.ld (v := U a0.a2) .t2 .k2 (.one isAgg28 rfl)) (fun _ h => (h.imp (Ls.of (.cons .k1 (.cons .k1 (.cons .k1 .nil))))).ro Rs.nil) rfl rfl ?_
  refine .dld rfl (.n rfl) (V.ld (v := U a1.a2) .t2 .k1 (.one isAgg28 rfl)) (fun _ h => (h.imp (Ls.of (.cons .k1 (.cons .k1 (.cons .k1 .nil))))).ro Rs.nil) rfl rfl ?_
  refine .dpu rfl (.n rfl) (P.extn (.cons .t1 (.cons .t0 (.cons .t0 .nil))) func55 rfl rfl fn_55 find_55 (run_add64u _ _ _ add64_le)) rfl rfl ?_
  refine .dpu rfl (.n rfl) (P.mov .t0) rfl rfl ?_
  refine .dpu rfl (.n rfl) (P.ext (v := U (add64 a0.a2 a1.a2 (add64 a0.a1 a1.a1 (add64 a0.a0 a1.a0 0).2).2).1) .g0 rfl) rfl rfl ?_
  refine .dpu rfl (.n rfl) (P.ext (v := U (add64 a0.a2 a1.a2 (add64 a0.a1 a1.a1 (add64 a0.a0 a1.a0 0).2).2).2) .t1 rfl) rfl rfl ?_
  refine .dpu rfl (.n rfl) (P.iac (i := 2) .t2 rfl .g4 runUnderlying30 sizeOf28 rfl rfl) rfl rfl ?_
  refine .dgo rfl (.n rfl) (G.str .t2 .t0 .k0 (.mk (cs' := (api_Wide.cs ⟨(add64 a0.a0 a1.a0 0).1, (add64 a0.a1 a1.a1 (add64 a0.a0 a1.a0 0).2).1, (add64 a0.a2 a1.a2 (add64 a0.a1 a1.a1 (add64 a0.a0 a1.a0 0).2).2).1, 0⟩)) sizeOf28 rfl rfl rfl rfl)) (.inr fun _ _ _ h => (h.imp (Ls.of (.cons .k1 (.cons .k1 (.cons .k1 .nil))))).ro Rs.nil) fun _ _ => ?_
  refine .drop .k2 ?_
  refine .dgo rfl (.n rfl) (OpV.g (OpP.toV (P.asg .t0)) rfl) (.inr fun _ _ _ h => (h.imp (Ls.of (.cons .k1 (.cons .k1 (.cons .k1 .nil))))).ro Rs.nil) fun _ _ => ?_
  refine .dnil ?_
  refine .inn ?_
  refine .then ?_
  refine .reg rfl ?_
  refine .opp (P.bin (v := N 3) .g1 .k (.addc (by decide))) rfl ?_
  refine .drop .k2 ?_
  refine .opp (P.mov .t0) rfl ?_
  refine .nil ?_
  refine .then ?_
  refine .rd ?_
  refine .seq ?_
  refine .reg rfl ?_
  refine .opp (P.bin (v := Bo true) .g0 .k (BinV.lss.boolc (by decide))) rfl ?_
  refine .nil ?_
  refine .then ?_
  refine .seq ?_
  refine .condT .t0 ?_
  refine .skip ?_
  refine .then ?_
  refine .seq ?_
  refine .block ?_
  refine .seq ?_
  refine .reg rfl ?_
  refine .opp (P.mov .g0) rfl ?_
  refine .opp (P.asg .t0) rfl ?_
  refine .nil ?_
  refine .then ?_
  refine .drawl [blk b3 30 (api_Wide.cs ⟨0, 0, 0, 0⟩), blk b2 30 (api_Wide.cs a1), blk b1 30 (api_Wide.cs a0)] [] (Ls.of (.cons .k1 (.cons .k1 (.cons .k1 .nil)))) Rs.nil 15 (.on 0 .pu (.on 1 .pu (.on 2 .pu (.on 4 .pu (.on 5 .pu (.on 7 .pu (.on 3 .ld (.on 6 .ld (.on 8 .pu (.on 9 .pu (.on 10 .pu (.on 11 .pu (.on 12 .pu (.on 13 .go (.on 14 .go .nl))))))))))))))) follows_mixed (.inb (.thn (.thn (.inb (.thn .body))))) (by kernel_rfl) ?_
  refine .dpu rfl (.n rfl) (P.mov .g0) rfl rfl ?_
  refine .dpu rfl (.n rfl) (P.mov .g1) rfl rfl ?_
  refine .dpu rfl (.n rfl) (P.iac (i := 3) .t0 rfl .g7 runUnderlying30 sizeOf28 rfl rfl) rfl rfl ?_
  refine .dpu rfl (.n rfl) (P.mov .t2) rfl rfl ?_
  refine .dpu rfl (.n rfl) (P.iac (i := 3) .t0 rfl .g6 runUnderlying30 sizeOf28 rfl rfl) rfl rfl ?_
  refine .dpu rfl (.n rfl) (P.mov .g4) rfl rfl ?_
  refine .dld rfl (.n rfl) (V.ld (v := U a0.a3) .t2 .k2 (.one isAgg28 rfl)) (fun _ h => (h.imp (Ls.of (.cons .k1 (.cons .k1 (.cons .k1 .nil))))).ro Rs.nil) rfl rfl ?_
  refine .dld rfl (.n rfl) (V.ld (v := U a1.a3) .t2 .k1 (.one isAgg28 rfl)) (fun _ h => (h.imp (Ls.of (.cons .k1 (.cons .k1 (.cons .k1 .nil))))).ro Rs.nil) rfl rfl ?_
  refine .dpu rfl (.n rfl) (P.extn (.cons .t1 (.cons .t0 (.cons .t0 .nil))) func55 rfl rfl fn_55 find_55 (run_add64u _ _ _ add64_le)) rfl rfl ?_
  refine .dpu rfl (.n rfl) (P.mov .t0) rfl rfl ?_
  refine .dpu rfl (.n rfl) (P.ext (v := U (add64 a0.a3 a1.a3 (add64 a0.a2 a1.a2 (add64 a0.a1 a1.a1 (add64 a0.a0 a1.a0 0).2).2).2).1) .g0 rfl) rfl rfl ?_
  refine .dpu rfl (.n rfl) (P.ext (v := U (add64 a0.a3 a1.a3 (add64 a0.a2 a1.a2 (add64 a0.a1 a1.a1 (add64 a0.a0 a1.a0 0).2).2).2).2) .t1 rfl) rfl rfl ?_
  refine .dpu rfl (.n rfl) (P.iac (i := 3) .t2 rfl .g4 runUnderlying30 sizeOf28 rfl rfl) rfl rfl ?_
  refine .dgo rfl (.n rfl) (G.str .t2 .t0 .k0 (.mk (cs' := (api_Wide.cs ⟨(add64 a0.a0 a1.a0 0).1, (add64 a0.a1 a1.a1 (add64 a0.a0 a1.a0 0).2).1, (add64 a0.a2 a1.a2 (add64 a0.a1 a1.a1 (add64 a0.a0 a1.a0 0).2).2).1, (add64 a0.a3 a1.a3 (add64 a0.a2 a1.a2 (add64 a0.a1 a1.a1 (add64 a0.a0 a1.a0 0).2).2).2).1⟩)) sizeOf28 rfl rfl rfl rfl)) (.inr fun _ _ _ h => (h.imp (Ls.of (.cons .k1 (.cons .k1 (.cons .k1 .nil))))).ro Rs.nil) fun _ _ => ?_
  refine .drop .k2 ?_
  refine .dgo rfl (.n rfl) (OpV.g (OpP.toV (P.asg .t0)) rfl) (.inr fun _ _ _ h => (h.imp (Ls.of (.cons .k1 (.cons .k1 (.cons .k1 .nil))))).ro Rs.nil) fun _ _ => ?_
  refine .dnil ?_
  refine .inn ?_
  refine .then ?_
  refine .reg rfl ?_
  refine .opp (P.bin (v := N 4) .g1 .k (.addc (by decide))) rfl ?_
  refine .drop .k2 ?_
  refine .opp (P.mov .t0) rfl ?_
  refine .nil ?_
  refine .then ?_
  refine .rd ?_
  refine .seq ?_
  refine .reg rfl ?_
  refine .opp (P.bin (v := Bo false) .g0 .k (BinV.lss.boolc (by decide))) rfl ?_
  refine .nil ?_
  refine .then ?_
  refine .seq ?_
  refine .condF .t0 ?_
  refine .exit ?_
  refine .thx ?_
  refine .thx ?_
  refine .inb ?_
  refine .then ?_
  refine .seq ?_
  refine .seq ?_
  refine .reg rfl ?_
  refine .opp (P.mov .t1) rfl ?_
  refine .opp (P.bin .t0 .k (BinV.neqU (x := (add64 a0.a3 a1.a3 (add64 a0.a2 a1.a2 (add64 a0.a1 a1.a1 (add64 a0.a0 a1.a0 0).2).2).2).2) (y := 0))) rfl ?_
  refine .nil ?_
  refine .then ?_
  refine .cond .t0 (fun c5 => ?_) (fun c5 => ?_)
  · rw [if_pos c5] at h
    refine .seq ?_
    refine .reg rfl ?_
    refine .opp (P.bld (v := Ag (api_Wide.cs ⟨0, 0, 0, 0⟩)) .nil (bld_runA zeroValue30 runUnderlying30 sizeOf28 (by kernel_rfl))) rfl ?_
    refine .opg (G.str .t0 .g2 .k1 (.mk (cs' := (api_Wide.cs ⟨0, 0, 0, 0⟩)) sizeOf30 rfl rfl rfl rfl)) rfl fun _ _ => ?_
    refine .opp (P.asg .k) rfl ?_
    refine .nil ?_
    refine .then ?_
    refine .ret ?_
    refine .thr ?_
    subst h
    exact .finw () (.r2 rfl (.cell .g3 .k0 (.agg isAgg30 sizeOf30 rfl rfl)) (.tmp .g0)) trivial (Ls.of .nil) .nil
  · rw [if_neg (ne_true_of_eq_false c5)] at h
    refine .skip ?_
    refine .then ?_
    refine .seq ?_
    refine .reg rfl ?_
    refine .op (V.ld (v := Ag (api_Wide.cs ⟨(add64 a0.a0 a1.a0 0).1, (add64 a0.a1 a1.a1 (add64 a0.a0 a1.a0 0).2).1, (add64 a0.a2 a1.a2 (add64 a0.a1 a1.a1 (add64 a0.a0 a1.a0 0).2).2).1, (add64 a0.a3 a1.a3 (add64 a0.a2 a1.a2 (add64 a0.a1 a1.a1 (add64 a0.a0 a1.a0 0).2).2).2).1⟩)) .t1 .k0 (.agg isAgg30 sizeOf30 rfl rfl)) rfl ?_
    refine .opg (G.str .t0 .g1 .k1 (.mk (cs' := (api_Wide.cs ⟨(add64 a0.a0 a1.a0 0).1, (add64 a0.a1 a1.a1 (add64 a0.a0 a1.a0 0).2).1, (add64 a0.a2 a1.a2 (add64 a0.a1 a1.a1 (add64 a0.a0 a1.a0 0).2).2).1, (add64 a0.a3 a1.a3 (add64 a0.a2 a1.a2 (add64 a0.a1 a1.a1 (add64 a0.a0 a1.a0 0).2).2).2).1⟩)) sizeOf30 rfl rfl rfl rfl)) rfl fun _ _ => ?_
    refine .opp (P.asg .k) rfl ?_
    refine .nil ?_
    refine .then ?_
    refine .ret ?_
    subst h
    exact .finw () (.r2 rfl (.cell .g2 .k0 (.agg isAgg30 sizeOf30 rfl rfl)) (.tmp .g0)) trivial (Ls.of .nil) .nil
attribute [irreducible] wide_Add
noncomputable def history_teller_out (a0 : history_teller) (a1 : Int) (a2 : Int) (a3 : api_Wide) : history_teller :=
  thn (if (decide (a1 = a0.account)) = true then (decide (a2 = a0.asset)) else false) fun (y2 : Bool) => if y2 = true then ((⟨a0.side, a0.account, a0.asset, ⟨a0.line.Time, a0.line.Kind, a0.line.In, (wide_Add a0.line.Out a3).1⟩⟩ : history_teller)) else a0
set_option maxRecDepth 20000 in
set_option maxHeartbeats 1000000 in
theorem S_history_teller_out (b00 : Nat) (a0 : history_teller) (a1 : Int) (a2 : Int) (a3 : api_Wide) (r : history_teller) (h : history_teller_out a0 a1 a2 a3 = r) :
    SpecF Tryz.prog 58 [pt b00 0, N a1, N a2, Ag (api_Wide.cs a3)] [blk b00 105 (history_teller.cs a0)] [] (fun z : Unit => True) (fun z => Tu []) (fun z M => blk b00 105 (history_teller.cs r) ::  M) (fun z M =>  M) := by
  refine .of func58 rfl ntmps58 rfl fun w0 D0 G0 => ?_
  unfold history_teller_out at h
  refine .seq ?_
  refine .reg rfl ?_
  refine .opx (X.box (cs := (api_Wide.cs a3)) .t3 rfl) rfl fun b1 => ?_
  refine .nil ?_
  refine .then ?_
  obtain ⟨y2, hj4, h⟩ := thn_eq h
  refine .cutx (γ := Unit) (E1 := fun z3 => [(21, Bo y2), (7, pt b1 0), (0, pt b00 0)]) (L1 := fun z3 => [blk b1 30 (api_Wide.cs a3), blk b00 105 (history_teller.cs a0)]) (R1 := fun z3 => []) ?_ (fun z3 => ?_)
  · clear h
    refine .reg rfl ?_
    refine .opp (P.mov .t2) rfl ?_
    refine .opp (P.mov .g2) rfl ?_
    refine .opp (P.nilc .t0) rfl ?_
    refine .opp (P.fa .t0 fa_105_1 rfl) rfl ?_
    refine .op (V.ld (v := N a0.account) .t0 .k1 (.one isAgg3 rfl)) rfl ?_
    refine .opp (P.bin .t1 .t0 .eql) rfl ?_
    refine .opp (P.mov .t0) rfl ?_
    refine .split .k0 (fun c5 => ?_) (fun c5 => ?_)
    · rw [if_pos c5] at hj4
      refine .gyes rfl .g0 ?_
      refine .opp (P.mov .t3) rfl ?_
      refine .gyes rfl .g1 ?_
      refine .opp (P.mov .g3) rfl ?_
      refine .gyes rfl .g2 ?_
      refine .opp (P.nilc .t0) rfl ?_
      refine .gyes rfl .g2 ?_
      refine .opp (P.fa .t0 fa_105_2 rfl) rfl ?_
      refine .gyes rfl .g2 ?_
      refine .op (V.ld (v := N a0.asset) .t0 .k1 (.one isAgg3 rfl)) rfl ?_
      refine .gyes rfl .g2 ?_
      refine .opp (P.bin .t1 .t0 .eql) rfl ?_
      refine .opp (P.pickT .t1 .t0) rfl ?_
      refine .nil ?_
      subst hj4
      exact .stj () (.cons Mm.m0 (.cons Mm.m1 (.cons Mm.m2 .nil))) (.of (.cons .k0 (.cons .k0 .nil))) .nil
    · rw [if_neg (ne_true_of_eq_false c5)] at hj4
      refine .gno rfl .g0 rfl rfl ?_
      refine .gno rfl .g0 rfl rfl ?_
      refine .gno rfl .g0 rfl rfl ?_
      refine .gno rfl .g0 rfl rfl ?_
      refine .gno rfl .g0 rfl rfl ?_
      refine .gno rfl .g0 rfl rfl ?_
      refine .opp (P.pickF .t0 .k) rfl ?_
      refine .nil ?_
      subst hj4
      exact .stj () (.cons Mm.m0 (.cons Mm.m1 (.cons Mm.m2 .nil))) (.of (.cons .k0 (.cons .k0 .nil))) .nil
  · clear hj4
    refine .cond .t0 (fun c6 => ?_) (fun c6 => ?_)
    · rw [if_pos c6] at h
      refine .draw 7 (.on 0 .pu (.on 1 .pu (.on 2 .pu (.on 3 .pu (.on 4 .pu (.on 5 .ld (.on 6 .ld (.on 7 .go (.on 8 .pu (.on 9 .pu (.on 10 .pu (.on 11 .pu (.on 12 .pu (.on 13 .pu (.on 14 .go .nl))))))))))))))) follows_mixed .body (by kernel_rfl) ?_
      refine .dpu rfl (.n rfl) (P.mov .g1) rfl rfl ?_
      refine .dpu rfl (.n rfl) (P.mov .t2) rfl rfl ?_
      refine .dpu rfl (.n rfl) (P.nilc .t0) rfl rfl ?_
      refine .dpu rfl (.n rfl) (P.fa .t0 fa_105_3 rfl) rfl rfl ?_
      refine .dpu rfl (.n rfl) (P.fa .t0 fa_87_3 rfl) rfl rfl ?_
      refine .dld rfl (.n rfl) (V.ld (v := Ag (api_Wide.cs a0.line.Out)) .t0 .k1 (.agg isAgg30 sizeOf30 rfl rfl)) (fun _ h => h) rfl rfl ?_
      refine .dld rfl (.n rfl) (V.ld (v := Ag (api_Wide.cs a3)) .t2 .k0 (.agg isAgg30 sizeOf30 rfl rfl)) (fun _ h => h) rfl rfl ?_
      refine .dgo rfl (.n rfl) (G.call call47 (.cons .t1 (.cons .t0 .nil)) (S_wide_Add a0.line.Out a3 _ rfl) .nil .nil (fun _ _ => rfl) (fun _ _ => rfl) rfl) (.inl rfl) fun _ _ => ?_
      refine .dpu rfl (.n rfl) (P.mov .t0) rfl rfl ?_
      refine .dpu rfl (.n rfl) (P.ext (v := Ag (api_Wide.cs (wide_Add a0.line.Out a3).1)) .g0 rfl) rfl rfl ?_
      refine .dpu0 rfl (.n rfl) (P.ext (v := Bo (wide_Add a0.line.Out a3).2) .t1 rfl) rfl rfl ?_
      refine .dpu rfl (.n rfl) (P.nilc .t1) rfl rfl ?_
      refine .dpu rfl (.n rfl) (P.fa .t0 fa_105_3 rfl) rfl rfl ?_
      refine .dpu rfl (.n rfl) (P.fa .t0 fa_87_3 rfl) rfl rfl ?_
      refine .dgo rfl (.n rfl) (G.str .t1 .t0 .k1 (.mk (cs' := (history_teller.cs ⟨a0.side, a0.account, a0.asset, ⟨a0.line.Time, a0.line.Kind, a0.line.In, (wide_Add a0.line.Out a3).1⟩⟩)) sizeOf30 rfl rfl rfl rfl)) (.inl rfl) fun _ _ => ?_
      refine .dnil ?_
      subst h
      exact .finwn () (.r0 rfl) trivial (Ls.of (.cons .k0 .nil)) .nil
    · rw [if_neg (ne_true_of_eq_false c6)] at h
      refine .skip ?_
      subst h
      exact .finwn () (.r0 rfl) trivial (Ls.of (.cons .k1 .nil)) .nil
attribute [irreducible] history_teller_out
noncomputable def history_teller_in (a0 : history_teller) (a1 : Int) (a2 : Int) (a3 : api_Wide) : history_teller :=
  thn (if (decide (a1 = a0.account)) = true then (decide (a2 = a0.asset)) else false) fun (y2 : Bool) => if y2 = true then ((⟨a0.side, a0.account, a0.asset, ⟨a0.line.Time, a0.line.Kind, (wide_Add a0.line.In a3).1, a0.line.Out⟩⟩ : history_teller)) else a0
set_option maxRecDepth 20000 in
set_option maxHeartbeats 1000000 in
theorem S_history_teller_in (b00 : Nat) (a0 : history_teller) (a1 : Int) (a2 : Int) (a3 : api_Wide) (r : history_teller) (h : history_teller_in a0 a1 a2 a3 = r) :
    SpecF Tryz.prog 59 [pt b00 0, N a1, N a2, Ag (api_Wide.cs a3)] [blk b00 105 (history_teller.cs a0)] [] (fun z : Unit => True) (fun z => Tu []) (fun z M => blk b00 105 (history_teller.cs r) ::  M) (fun z M =>  M) := by
  refine .of func59 rfl ntmps59 rfl fun w0 D0 G0 => ?_
  unfold history_teller_in at h
  refine .seq ?_
  refine .reg rfl ?_
  refine .opx (X.box (cs := (api_Wide.cs a3)) .t3 rfl) rfl fun b1 => ?_
  refine .nil ?_
  refine .then ?_
  obtain ⟨y2, hj4, h⟩ := thn_eq h
  refine .cutx (γ := Unit) (E1 := fun z3 => [(21, Bo y2), (7, pt b1 0), (0, pt b00 0)]) (L1 := fun z3 => [blk b1 30 (api_Wide.cs a3), blk b00 105 (history_teller.cs a0)]) (R1 := fun z3 => []) ?_ (fun z3 => ?_)
  · clear h
    refine .reg rfl ?_
    refine .opp (P.mov .t2) rfl ?_
    refine .opp (P.mov .g2) rfl ?_
    refine .opp (P.nilc .t0) rfl ?_
    refine .opp (P.fa .t0 fa_105_1 rfl) rfl ?_
    refine .op (V.ld (v := N a0.account) .t0 .k1 (.one isAgg3 rfl)) rfl ?_
    refine .opp (P.bin .t1 .t0 .eql) rfl ?_
    refine .opp (P.mov .t0) rfl ?_
    refine .split .k0 (fun c5 => ?_) (fun c5 => ?_)
    · rw [if_pos c5] at hj4
      refine .gyes rfl .g0 ?_
      refine .opp (P.mov .t3) rfl ?_
      refine .gyes rfl .g1 ?_
      refine .opp (P.mov .g3) rfl ?_
      refine .gyes rfl .g2 ?_
      refine .opp (P.nilc .t0) rfl ?_
      refine .gyes rfl .g2 ?_
      refine .opp (P.fa .t0 fa_105_2 rfl) rfl ?_
      refine .gyes rfl .g2 ?_
      refine .op (V.ld (v := N a0.asset) .t0 .k1 (.one isAgg3 rfl)) rfl ?_
      refine .gyes rfl .g2 ?_
      refine .opp (P.bin .t1 .t0 .eql) rfl ?_
      refine .opp (P.pickT .t1 .t0) rfl ?_
      refine .nil ?_
      subst hj4
      exact .stj () (.cons Mm.m0 (.cons Mm.m1 (.cons Mm.m2 .nil))) (.of (.cons .k0 (.cons .k0 .nil))) .nil
    · rw [if_neg (ne_true_of_eq_false c5)] at hj4
      refine .gno rfl .g0 rfl rfl ?_
      refine .gno rfl .g0 rfl rfl ?_
      refine .gno rfl .g0 rfl rfl ?_
      refine .gno rfl .g0 rfl rfl ?_
      refine .gno rfl .g0 rfl rfl ?_
      refine .gno rfl .g0 rfl rfl ?_
      refine .opp (P.pickF .t0 .k) rfl ?_
      refine .nil ?_
      subst hj4
      exact .stj () (.cons Mm.m0 (.cons Mm.m1 (.cons Mm.m2 .nil))) (.of (.cons .k0 (.cons .k0 .nil))) .nil
  · clear hj4
    refine .cond .t0 (fun c6 => ?_) (fun c6 => ?_)
    · rw [if_pos c6] at h
      refine .draw 7 (.on 0 .pu (.on 1 .pu (.on 2 .pu (.on 3 .pu (.on 4 .pu (.on 5 .ld (.on 6 .ld (.on 7 .go (.on 8 .pu (.on 9 .pu (.on 10 .pu (.on 11 .pu (.on 12 .pu (.on 13 .pu (.on 14 .go .nl))))))))))))))) follows_mixed .body (by kernel_rfl) ?_
      refine .dpu rfl (.n rfl) (P.mov .g1) rfl rfl ?_
      refine .dpu rfl (.n rfl) (P.mov .t2) rfl rfl ?_
      refine .dpu rfl (.n rfl) (P.nilc .t0) rfl rfl ?_
      refine .dpu rfl (.n rfl) (P.fa .t0 fa_105_3 rfl) rfl rfl ?_
      refine .dpu rfl (.n rfl) (P.fa .t0 fa_87_2 rfl) rfl rfl ?_
      refine .dld rfl (.n rfl) (V.ld (v := Ag (api_Wide.cs a0.line.In)) .t0 .k1 (.agg isAgg30 sizeOf30 rfl rfl)) (fun _ h => h) rfl rfl ?_
      refine .dld rfl (.n rfl) (V.ld (v := Ag (api_Wide.cs a3)) .t2 .k0 (.agg isAgg30 sizeOf30 rfl rfl)) (fun _ h => h) rfl rfl ?_
      refine .dgo rfl (.n rfl) (G.call call47 (.cons .t1 (.cons .t0 .nil)) (S_wide_Add a0.line.In a3 _ rfl) .nil .nil (fun _ _ => rfl) (fun _ _ => rfl) rfl) (.inl rfl) fun _ _ => ?_
      refine .dpu rfl (.n rfl) (P.mov .t0) rfl rfl ?_
      refine .dpu rfl (.n rfl) (P.ext (v := Ag (api_Wide.cs (wide_Add a0.line.In a3).1)) .g0 rfl) rfl rfl ?_
      refine .dpu0 rfl (.n rfl) (P.ext (v := Bo (wide_Add a0.line.In a3).2) .t1 rfl) rfl rfl ?_
      refine .dpu rfl (.n rfl) (P.nilc .t1) rfl rfl ?_
      refine .dpu rfl (.n rfl) (P.fa .t0 fa_105_3 rfl) rfl rfl ?_
      refine .dpu rfl (.n rfl) (P.fa .t0 fa_87_2 rfl) rfl rfl ?_
      refine .dgo rfl (.n rfl) (G.str .t1 .t0 .k1 (.mk (cs' := (history_teller.cs ⟨a0.side, a0.account, a0.asset, ⟨a0.line.Time, a0.line.Kind, (wide_Add a0.line.In a3).1, a0.line.Out⟩⟩)) sizeOf30 rfl rfl rfl rfl)) (.inl rfl) fun _ _ => ?_
      refine .dnil ?_
      subst h
      exact .finwn () (.r0 rfl) trivial (Ls.of (.cons .k0 .nil)) .nil
    · rw [if_neg (ne_true_of_eq_false c6)] at h
      refine .skip ?_
      subst h
      exact .finwn () (.r0 rfl) trivial (Ls.of (.cons .k1 .nil)) .nil
attribute [irreducible] history_teller_in
noncomputable def wide_Sub (a0 : api_Wide) (a1 : api_Wide) : api_Wide × Bool :=
  if (decide ((sub64 a0.a3 a1.a3 (sub64 a0.a2 a1.a2 (sub64 a0.a1 a1.a1 (sub64 a0.a0 a1.a0 0).2).2).2).2 ≠ 0)) = true then (⟨0, 0, 0, 0⟩, false) else ((⟨(sub64 a0.a0 a1.a0 0).1, (sub64 a0.a1 a1.a1 (sub64 a0.a0 a1.a0 0).2).1, (sub64 a0.a2 a1.a2 (sub64 a0.a1 a1.a1 (sub64 a0.a0 a1.a0 0).2).2).1, (sub64 a0.a3 a1.a3 (sub64 a0.a2 a1.a2 (sub64 a0.a1 a1.a1 (sub64 a0.a0 a1.a0 0).2).2).2).1⟩, true))
set_option maxRecDepth 20000 in
set_option maxHeartbeats 1000000 in
theorem S_wide_Sub (a0 : api_Wide) (a1 : api_Wide) (r : api_Wide × Bool) (h : wide_Sub a0 a1 = r) :
    SpecF Tryz.prog 39 [Ag (api_Wide.cs a0), Ag (api_Wide.cs a1)] [] [] (fun z : Unit => True) (fun z => Tu [Ag (api_Wide.cs r.1), Bo r.2]) (fun z M =>  M) (fun z M =>  M) := by
  refine .of func39 rfl ntmps39 rfl fun w0 D0 G0 => ?_
  unfold wide_Sub at h
  refine .seq ?_
  refine .reg rfl ?_
  refine .opx (X.box (cs := (api_Wide.cs a0)) .t0 rfl) rfl fun b1 => ?_
  refine .opx (X.box (cs := (api_Wide.cs a1)) .t1 rfl) rfl fun b2 => ?_
  refine .opx (X.alc (cs := (api_Wide.cs ⟨0, 0, 0, 0⟩)) zeroValue30 rfl) rfl fun b3 => ?_
  refine .op0 (OpP.toV (P.asg .k)) rfl ?_
  refine .nil ?_
  refine .then ?_
  refine .seq ?_
  refine .reg rfl ?_
  refine .opx (X.alc (cs := (api_Wide.cs ⟨0, 0, 0, 0⟩)) zeroValue30 rfl) rfl fun b4 => ?_
  refine .nil ?_
  refine .then ?_
  refine .seq ?_
  refine .reg rfl ?_
  refine .opp (P.asg .k) rfl ?_
  refine .nil ?_
  refine .then ?_
  refine .seq ?_
  refine .seq ?_
  refine .reg rfl ?_
  refine .opp (P.mov .k) rfl ?_
  refine .nil ?_
  refine .then ?_
  refine .block ?_
  refine .rounds 5 ?_
  refine .rd ?_
  refine .seq ?_
  refine .reg rfl ?_
  refine .opp (P.bin (v := Bo true) .g0 .k (BinV.lss.boolc (by decide))) rfl ?_
  refine .nil ?_
  refine .then ?_
  refine .seq ?_
  refine .condT .t0 ?_
  refine .skip ?_
  refine .then ?_
  refine .seq ?_
  refine .block ?_
  refine .seq ?_
  refine .reg rfl ?_
  refine .opp (P.mov .g0) rfl ?_
  refine .opp (P.asg .t0) rfl ?_
  refine .nil ?_
  refine .then ?_
  refine .drawl [blk b3 30 (api_Wide.cs ⟨0, 0, 0, 0⟩), blk b2 30 (api_Wide.cs a1), blk b1 30 (api_Wide.cs a0)] [] (Ls.of (.cons .k1 (.cons .k1 (.cons .k1 .nil)))) Rs.nil 15 (.on 0 .pu (.on 1 .pu (.on 2 .pu (.on 4 .pu (.on 5 .pu (.on 7 .pu (.on 3 .ld (.on 6 .ld (.on 8 .pu (.on 9 .pu (.on 10 .pu (.on 11 .pu (.on 12 .pu (.on 13 .go (.on 14 .go .nl))))))))))))))) follows_mixed (.inb (.thn (.thn (.inb (.thn .body))))) (by kernel_rfl) ?_
  refine .dpu rfl (.n rfl) (P.mov .g0) rfl rfl ?_
  refine .dpu rfl (.n rfl) (P.mov .g1) rfl rfl ?_
  refine .dpu rfl (.n rfl) (P.iac (i := 0) .t0 rfl .g7 runUnderlying30 sizeOf28 rfl rfl) rfl rfl ?_
  refine .dpu rfl (.n rfl) (P.mov .t2) rfl rfl ?_
  refine .dpu rfl (.n rfl) (P.iac (i := 0) .t0 rfl .g6 runUnderlying30 sizeOf28 rfl rfl) rfl rfl ?_
  refine .dpu rfl (.n rfl) (P.mov .g4) rfl rfl ?_
  refine .dld rfl (.n rfl) (V.ld (v := U a0.a0) .t2 .k2 (.one isAgg28 rfl)) (fun _ h => (h.imp (Ls.of (.cons .k1 (.cons .k1 (.cons .k1 .nil))))).ro Rs.nil) rfl rfl ?_
  refine .dld rfl (.n rfl) (V.ld (v := U a1.a0) .t2 .k1 (.one isAgg28 rfl)) (fun _ h => (h.imp (Ls.of (.cons .k1 (.cons .k1 (.cons .k1 .nil))))).ro Rs.nil) rfl rfl ?_
  refine .dpu rfl (.n rfl) (P.extn (.cons .t1 (.cons .t0 (.cons .t0 .nil))) func53 rfl rfl fn_53 find_53 (run_sub64u _ _ 0 zero_le1)) rfl rfl ?_
  refine .dpu rfl (.n rfl) (P.mov .t0) rfl rfl ?_
  refine .dpu rfl (.n rfl) (P.ext (v := U (sub64 a0.a0 a1.a0 0).1) .g0 rfl) rfl rfl ?_
  refine .dpu rfl (.n rfl) (P.ext (v := U (sub64 a0.a0 a1.a0 0).2) .t1 rfl) rfl rfl ?_
  refine .dpu rfl (.n rfl) (P.iac (i := 0) .t2 rfl .g4 runUnderlying30 sizeOf28 rfl rfl) rfl rfl ?_
  refine .dgo rfl (.n rfl) (G.str .t2 .t0 .k0 (.mk (cs' := (api_Wide.cs ⟨(sub64 a0.a0 a1.a0 0).1, 0, 0, 0⟩)) sizeOf28 rfl rfl rfl rfl)) (.inr fun _ _ _ h => (h.imp (Ls.of (.cons .k1 (.cons .k1 (.cons .k1 .nil))))).ro Rs.nil) fun _ _ => ?_
  refine .drop .k2 ?_
  refine .dgo rfl (.n rfl) (OpV.g (OpP.toV (P.asg .t0)) rfl) (.inr fun _ _ _ h => (h.imp (Ls.of (.cons .k1 (.cons .k1 (.cons .k1 .nil))))).ro Rs.nil) fun _ _ => ?_
  refine .dnil ?_
  refine .inn ?_
  refine .then ?_
  refine .reg rfl ?_
  refine .opp (P.bin (v := N 1) .g1 .k (.addc (by decide))) rfl ?_
  refine .drop .k2 ?_
  refine .opp (P.mov .t0) rfl ?_
  refine .nil ?_
  refine .then ?_
  refine .rd ?_
  refine .seq ?_
  refine .reg rfl ?_
  refine .opp (P.bin (v := Bo true) .g0 .k (BinV.lss.boolc (by decide))) rfl ?_
  refine .nil ?_
  refine .then ?_
  refine .seq ?_
  refine .condT .t0 ?_
  refine .skip ?_
  refine .then ?_
  refine .seq ?_
  refine .block ?_
  refine .seq ?_
  refine .reg rfl ?_
  refine .opp (P.mov .g0) rfl ?_
  refine .opp (P.asg .t0) rfl ?_
  refine .nil ?_
  refine .then ?_
  refine .drawl [blk b3 30 (api_Wide.cs ⟨0, 0, 0, 0⟩), blk b2 30 (api_Wide.cs a1), blk b1 30 (api_Wide.cs a0)] [] (Ls.of (.cons .k1 (.cons .k1 (.cons .k1 .nil)))) Rs.nil 15 (.on 0 .pu (.on 1 .pu (.on 2 .pu (.on 4 .pu (.on 5 .pu (.on 7 .pu (.on 3 .ld (.on 6 .ld (.on 8 .pu (.on 9 .pu (.on 10 .pu (.on 11 .pu (.on 12 .pu (.on 13 .go (.on 14 .go .nl))))))))))))))) follows_mixed (.inb (.thn (.thn (.inb (.thn .body))))) (by kernel_rfl) ?_
  refine .dpu rfl (.n rfl) (P.mov .g0) rfl rfl ?_
  refine .dpu rfl (.n rfl) (P.mov .g1) rfl rfl ?_
  refine .dpu rfl (.n rfl) (P.iac (i := 1) .t0 rfl .g7 runUnderlying30 sizeOf28 rfl rfl) rfl rfl ?_
  refine .dpu rfl (.n rfl) (P.mov .t2) rfl rfl ?_
  refine .dpu rfl (.n rfl) (P.iac (i := 1) .t0 rfl .g6 runUnderlying30 sizeOf28 rfl rfl) rfl rfl ?_
  refine .dpu rfl (.n rfl) (P.mov .g4) rfl rfl ?_
  refine .dld rfl (.n rfl) (V.ld (v := U a0.a1) .t2 .k2 (.one isAgg28 rfl)) (fun _ h => (h.imp (Ls.of (.cons .k1 (.cons .k1 (.cons .k1 .nil))))).ro Rs.nil) rfl rfl ?_
  refine .dld rfl (.n rfl) (V.ld (v := U a1.a1) .t2 .k1 (.one isAgg28 rfl)) (fun _ h => (h.imp (Ls.of (.cons .k1 (.cons .k1 (.cons .k1 .nil))))).ro Rs.nil) rfl rfl ?_
  refine .dpu rfl (.n rfl) (P.extn (.cons .t1 (.cons .t0 (.cons .t0 .nil))) func53 rfl rfl fn_53 find_53 (run_sub64u _ _ _ sub64_le)) rfl rfl ?_
  refine .dpu rfl (.n rfl) (P.mov .t0) rfl rfl ?_
  refine .dpu rfl (.n rfl) (P.ext (v := U (sub64 a0.a1 a1.a1 (sub64 a0.a0 a1.a0 0).2).1) .g0 rfl) rfl rfl ?_
  refine .dpu rfl (.n rfl) (P.ext (v := U (sub64 a0.a1 a1.a1 (sub64 a0.a0 a1.a0 0).2).2) .t1 rfl) rfl rfl ?_
  refine .dpu rfl (.n rfl) (P.iac (i := 1) .t2 rfl .g4 runUnderlying30 sizeOf28 rfl rfl) rfl rfl ?_
  refine .dgo rfl (.n rfl) (G.str .t2 .t0 .k0 (.mk (cs' := (api_Wide.cs ⟨(sub64 a0.a0 a1.a0 0).1, (sub64 a0.a1 a1.a1 (sub64 a0.a0 a1.a0 0).2).1, 0, 0⟩)) sizeOf28 rfl rfl rfl rfl)) (.inr fun _ _ _ h => (h.imp (Ls.of (.cons .k1 (.cons .k1 (.cons .k1 .nil))))).ro Rs.nil) fun _ _ => ?_
  refine .drop .k2 ?_
  refine .dgo rfl (.n rfl) (OpV.g (OpP.toV (P.asg .t0)) rfl) (.inr fun _ _ _ h => (h.imp (Ls.of (.cons .k1 (.cons .k1 (.cons .k1 .nil))))).ro Rs.nil) fun _ _ => ?_
  refine .dnil ?_
  refine .inn ?_
  refine .then ?_
  refine .reg rfl ?_
  refine .opp (P.bin (v := N 2) .g1 .k (.addc (by decide))) rfl ?_
  refine .drop .k2 ?_
  refine .opp (P.mov .t0) rfl ?_
  refine .nil ?_
  refine .then ?_
  refine .rd ?_
  refine .seq ?_
  refine .reg rfl ?_
  refine .opp (P.bin (v := Bo true) .g0 .k (BinV.lss.boolc (by decide))) rfl ?_
  refine .nil ?_
  refine .then ?_
  refine .seq ?_
  refine .condT .t0 ?_
  refine .skip ?_
  refine .then ?_
  refine .seq ?_
  refine .block ?_
  refine .seq ?_
  refine .reg rfl ?_
  refine .opp (P.mov .g0) rfl ?_
  refine .opp (P.asg .t0) rfl ?_
  refine .nil ?_
  refine .then ?_
  refine .drawl [blk b3 30 (api_Wide.cs ⟨0, 0, 0, 0⟩), blk b2 30 (api_Wide.cs a1), blk b1 30 (api_Wide.cs a0)] [] (Ls.of (.cons .k1 (.cons .k1 (.cons .k1 .nil)))) Rs.nil 15 (.on 0 .pu (.on 1 .pu (.on 2 .pu (.on 4 .pu (.on 5 .pu (.on 7 .pu (.on 3 .ld (.on 6 .ld (.on 8 .pu (.on 9 .pu (.on 10 .pu (.on 11 .pu (.on 12 .pu (.on 13 .go (.on 14 .go .nl))))))))))))))) follows_mixed (.inb (.thn (.thn (.inb (.thn .body))))) (by kernel_rfl) ?_
  refine .dpu rfl (.n rfl) (P.mov .g0) rfl rfl ?_
  refine .dpu rfl (.n rfl) (P.mov .g1) rfl rfl ?_
  refine .dpu rfl (.n rfl) (P.iac (i := 2) .t0 rfl .g7 runUnderlying30 sizeOf28 rfl rfl) rfl rfl ?_
  refine .dpu rfl (.n rfl) (P.mov .t2) rfl rfl ?_
  refine .dpu rfl (.n rfl) (P.iac (i := 2) .t0 rfl .g6 runUnderlying30 sizeOf28 rfl rfl) rfl rfl ?_
  refine .dpu rfl (.n rfl) (P.mov .g4) rfl rfl ?_
  refine .dld rfl (.n rfl) (V.ld (v := U a0.a2) .t2 .k2 (.one isAgg28 rfl)) (fun _ h => (h.imp (Ls.of (.cons .k1 (.cons .k1 (.cons .k1 .nil))))).ro Rs.nil) rfl rfl ?_
  refine .dld rfl (.n rfl) (V.ld (v := U a1.a2) .t2 .k1 (.one isAgg28 rfl)) (fun _ h => (h.imp (Ls.of (.cons .k1 (.cons .k1 (.cons .k1 .nil))))).ro Rs.nil) rfl rfl ?_
  refine .dpu rfl (.n rfl) (P.extn (.cons .t1 (.cons .t0 (.cons .t0 .nil))) func53 rfl rfl fn_53 find_53 (run_sub64u _ _ _ sub64_le)) rfl rfl ?_
  refine .dpu rfl (.n rfl) (P.mov .t0) rfl rfl ?_
  refine .dpu rfl (.n rfl) (P.ext (v := U (sub64 a0.a2 a1.a2 (sub64 a0.a1 a1.a1 (sub64 a0.a0 a1.a0 0).2).2).1) .g0 rfl) rfl rfl ?_
  refine .dpu rfl (.n rfl) (P.ext (v := U (sub64 a0.a2 a1.a2 (sub64 a0.a1 a1.a1 (sub64 a0.a0 a1.a0 0).2).2).2) .t1 rfl) rfl rfl ?_
  refine .dpu rfl (.n rfl) (P.iac (i := 2) .t2 rfl .g4 runUnderlying30 sizeOf28 rfl rfl) rfl rfl ?_
  refine .dgo rfl (.n rfl) (G.str .t2 .t0 .k0 (.mk (cs' := (api_Wide.cs ⟨(sub64 a0.a0 a1.a0 0).1, (sub64 a0.a1 a1.a1 (sub64 a0.a0 a1.a0 0).2).1, (sub64 a0.a2 a1.a2 (sub64 a0.a1 a1.a1 (sub64 a0.a0 a1.a0 0).2).2).1, 0⟩)) sizeOf28 rfl rfl rfl rfl)) (.inr fun _ _ _ h => (h.imp (Ls.of (.cons .k1 (.cons .k1 (.cons .k1 .nil))))).ro Rs.nil) fun _ _ => ?_
  refine .drop .k2 ?_
  refine .dgo rfl (.n rfl) (OpV.g (OpP.toV (P.asg .t0)) rfl) (.inr fun _ _ _ h => (h.imp (Ls.of (.cons .k1 (.cons .k1 (.cons .k1 .nil))))).ro Rs.nil) fun _ _ => ?_
  refine .dnil ?_
  refine .inn ?_
  refine .then ?_
  refine .reg rfl ?_
  refine .opp (P.bin (v := N 3) .g1 .k (.addc (by decide))) rfl ?_
  refine .drop .k2 ?_
  refine .opp (P.mov .t0) rfl ?_
  refine .nil ?_
  refine .then ?_
  refine .rd ?_
  refine .seq ?_
  refine .reg rfl ?_
  refine .opp (P.bin (v := Bo true) .g0 .k (BinV.lss.boolc (by decide))) rfl ?_
  refine .nil ?_
  refine .then ?_
  refine .seq ?_
  refine .condT .t0 ?_
  refine .skip ?_
  refine .then ?_
  refine .seq ?_
  refine .block ?_
  refine .seq ?_
  refine .reg rfl ?_
  refine .opp (P.mov .g0) rfl ?_
  refine .opp (P.asg .t0) rfl ?_
  refine .nil ?_
  refine .then ?_
  refine .drawl [blk b3 30 (api_Wide.cs ⟨0, 0, 0, 0⟩), blk b2 30 (api_Wide.cs a1), blk b1 30 (api_Wide.cs a0)] [] (Ls.of (.cons .k1 (.cons .k1 (.cons .k1 .nil)))) Rs.nil 15 (.on 0 .pu (.on 1 .pu (.on 2 .pu (.on 4 .pu (.on 5 .pu (.on 7 .pu (.on 3 .ld (.on 6 .ld (.on 8 .pu (.on 9 .pu (.on 10 .pu (.on 11 .pu (.on 12 .pu (.on 13 .go (.on 14 .go .nl))))))))))))))) follows_mixed (.inb (.thn (.thn (.inb (.thn .body))))) (by kernel_rfl) ?_
  refine .dpu rfl (.n rfl) (P.mov .g0) rfl rfl ?_
  refine .dpu rfl (.n rfl) (P.mov .g1) rfl rfl ?_
  refine .dpu rfl (.n rfl) (P.iac (i := 3) .t0 rfl .g7 runUnderlying30 sizeOf28 rfl rfl) rfl rfl ?_
  refine .dpu rfl (.n rfl) (P.mov .t2) rfl rfl ?_
  refine .dpu rfl (.n rfl) (P.iac (i := 3) .t0 rfl .g6 runUnderlying30 sizeOf28 rfl rfl) rfl rfl ?_
  refine .dpu rfl (.n rfl) (P.mov .g4) rfl rfl ?_
  refine .dld rfl (.n rfl) (V.ld (v := U a0.a3) .t2 .k2 (.one isAgg28 rfl)) (fun _ h => (h.imp (Ls.of (.cons .k1 (.cons .k1 (.cons .k1 .nil))))).ro Rs.nil) rfl rfl ?_
  refine .dld rfl (.n rfl) (V.ld (v := U a1.a3) .t2 .k1 (.one isAgg28 rfl)) (fun _ h => (h.imp (Ls.of (.cons .k1 (.cons .k1 (.cons .k1 .nil))))).ro Rs.nil) rfl rfl ?_
  refine .dpu rfl (.n rfl) (P.extn (.cons .t1 (.cons .t0 (.cons .t0 .nil))) func53 rfl rfl fn_53 find_53 (run_sub64u _ _ _ sub64_le)) rfl rfl ?_
  refine .dpu rfl (.n rfl) (P.mov .t0) rfl rfl ?_
  refine .dpu rfl (.n rfl) (P.ext (v := U (sub64 a0.a3 a1.a3 (sub64 a0.a2 a1.a2 (sub64 a0.a1 a1.a1 (sub64 a0.a0 a1.a0 0).2).2).2).1) .g0 rfl) rfl rfl ?_
  refine .dpu rfl (.n rfl) (P.ext (v := U (sub64 a0.a3 a1.a3 (sub64 a0.a2 a1.a2 (sub64 a0.a1 a1.a1 (sub64 a0.a0 a1.a0 0).2).2).2).2) .t1 rfl) rfl rfl ?_
  refine .dpu rfl (.n rfl) (P.iac (i := 3) .t2 rfl .g4 runUnderlying30 sizeOf28 rfl rfl) rfl rfl ?_
  refine .dgo rfl (.n rfl) (G.str .t2 .t0 .k0 (.mk (cs' := (api_Wide.cs ⟨(sub64 a0.a0 a1.a0 0).1, (sub64 a0.a1 a1.a1 (sub64 a0.a0 a1.a0 0).2).1, (sub64 a0.a2 a1.a2 (sub64 a0.a1 a1.a1 (sub64 a0.a0 a1.a0 0).2).2).1, (sub64 a0.a3 a1.a3 (sub64 a0.a2 a1.a2 (sub64 a0.a1 a1.a1 (sub64 a0.a0 a1.a0 0).2).2).2).1⟩)) sizeOf28 rfl rfl rfl rfl)) (.inr fun _ _ _ h => (h.imp (Ls.of (.cons .k1 (.cons .k1 (.cons .k1 .nil))))).ro Rs.nil) fun _ _ => ?_
  refine .drop .k2 ?_
  refine .dgo rfl (.n rfl) (OpV.g (OpP.toV (P.asg .t0)) rfl) (.inr fun _ _ _ h => (h.imp (Ls.of (.cons .k1 (.cons .k1 (.cons .k1 .nil))))).ro Rs.nil) fun _ _ => ?_
  refine .dnil ?_
  refine .inn ?_
  refine .then ?_
  refine .reg rfl ?_
  refine .opp (P.bin (v := N 4) .g1 .k (.addc (by decide))) rfl ?_
  refine .drop .k2 ?_
  refine .opp (P.mov .t0) rfl ?_
  refine .nil ?_
  refine .then ?_
  refine .rd ?_
  refine .seq ?_
  refine .reg rfl ?_
  refine .opp (P.bin (v := Bo false) .g0 .k (BinV.lss.boolc (by decide))) rfl ?_
  refine .nil ?_
  refine .then ?_
  refine .seq ?_
  refine .condF .t0 ?_
  refine .exit ?_
  refine .thx ?_
  refine .thx ?_
  refine .inb ?_
  refine .then ?_
  refine .seq ?_
  refine .seq ?_
  refine .reg rfl ?_
  refine .opp (P.mov .t1) rfl ?_
  refine .opp (P.bin .t0 .k (BinV.neqU (x := (sub64 a0.a3 a1.a3 (sub64 a0.a2 a1.a2 (sub64 a0.a1 a1.a1 (sub64 a0.a0 a1.a0 0).2).2).2).2) (y := 0))) rfl ?_
  refine .nil ?_
  refine .then ?_
  refine .cond .t0 (fun c5 => ?_) (fun c5 => ?_)
  · rw [if_pos c5] at h
    refine .seq ?_
    refine .reg rfl ?_
    refine .opp (P.bld (v := Ag (api_Wide.cs ⟨0, 0, 0, 0⟩)) .nil (bld_runA zeroValue30 runUnderlying30 sizeOf28 (by kernel_rfl))) rfl ?_
    refine .opg (G.str .t0 .g2 .k1 (.mk (cs' := (api_Wide.cs ⟨0, 0, 0, 0⟩)) sizeOf30 rfl rfl rfl rfl)) rfl fun _ _ => ?_
    refine .opp (P.asg .k) rfl ?_
    refine .nil ?_
    refine .then ?_
    refine .ret ?_
    refine .thr ?_
    subst h
    exact .finw () (.r2 rfl (.cell .g3 .k0 (.agg isAgg30 sizeOf30 rfl rfl)) (.tmp .g0)) trivial (Ls.of .nil) .nil
  · rw [if_neg (ne_true_of_eq_false c5)] at h
    refine .skip ?_
    refine .then ?_
    refine .seq ?_
    refine .reg rfl ?_
    refine .op (V.ld (v := Ag (api_Wide.cs ⟨(sub64 a0.a0 a1.a0 0).1, (sub64 a0.a1 a1.a1 (sub64 a0.a0 a1.a0 0).2).1, (sub64 a0.a2 a1.a2 (sub64 a0.a1 a1.a1 (sub64 a0.a0 a1.a0 0).2).2).1, (sub64 a0.a3 a1.a3 (sub64 a0.a2 a1.a2 (sub64 a0.a1 a1.a1 (sub64 a0.a0 a1.a0 0).2).2).2).1⟩)) .t1 .k0 (.agg isAgg30 sizeOf30 rfl rfl)) rfl ?_
    refine .opg (G.str .t0 .g1 .k1 (.mk (cs' := (api_Wide.cs ⟨(sub64 a0.a0 a1.a0 0).1, (sub64 a0.a1 a1.a1 (sub64 a0.a0 a1.a0 0).2).1, (sub64 a0.a2 a1.a2 (sub64 a0.a1 a1.a1 (sub64 a0.a0 a1.a0 0).2).2).1, (sub64 a0.a3 a1.a3 (sub64 a0.a2 a1.a2 (sub64 a0.a1 a1.a1 (sub64 a0.a0 a1.a0 0).2).2).2).1⟩)) sizeOf30 rfl rfl rfl rfl)) rfl fun _ _ => ?_
    refine .opp (P.asg .k) rfl ?_
    refine .nil ?_
    refine .then ?_
    refine .ret ?_
    subst h
    exact .finw () (.r2 rfl (.cell .g2 .k0 (.agg isAgg30 sizeOf30 rfl rfl)) (.tmp .g0)) trivial (Ls.of .nil) .nil
attribute [irreducible] wide_Sub
noncomputable def history_teller_deal (a0 : history_teller) (a1 : api_Tx) : history_teller :=
  thn (if (decide (a1.Kind = 4)) = true then (decide (a0.side = 0)) else false) fun (y2 : Bool) => if y2 = true then (history_teller_out a0 a1.Inv.User a1.Inv.Send a1.Var.Amount) else (thn (if (decide (a1.Kind = 5)) = true then (decide (a0.side = 1)) else false) fun (y7 : Bool) => if y7 = true then ((history_teller_in (history_teller_in a0 a1.Inv.To a1.Inv.Recv (wide_Sub a1.Var.Amount a1.Fee).1) a1.From a1.Inv.Recv a1.Fee)) else (thn (if (decide (a1.Kind = 6)) = true then (decide (a0.side = 0)) else false) fun (y13 : Bool) => if y13 = true then (history_teller_in a0 a1.Inv.User a1.Inv.Send a1.Var.Amount) else a0))
set_option maxRecDepth 20000 in
set_option maxHeartbeats 1000000 in
theorem S_history_teller_deal (b00 : Nat) (a0 : history_teller) (a1 : api_Tx) (r : history_teller) (h : history_teller_deal a0 a1 = r) :
    SpecF Tryz.prog 60 [pt b00 0, Ag (api_Tx.cs a1)] [blk b00 105 (history_teller.cs a0)] [] (fun z : Unit => True) (fun z => Tu []) (fun z M => blk b00 105 (history_teller.cs r) ::  M) (fun z M =>  M) := by
  refine .of func60 rfl ntmps60 rfl fun w0 D0 G0 => ?_
  unfold history_teller_deal at h
  refine .seq ?_
  refine .reg rfl ?_
  refine .opx (X.box (cs := (api_Tx.cs a1)) .t1 rfl) rfl fun b1 => ?_
  refine .nil ?_
  refine .then ?_
  refine .block ?_
  obtain ⟨y2, hj4, h⟩ := thn_eq h
  refine .cutx (γ := Unit) (E1 := fun z3 => [(6, Bo y2), (3, pt b1 0), (0, pt b00 0)]) (L1 := fun z3 => [blk b1 36 (api_Tx.cs a1), blk b00 105 (history_teller.cs a0)]) (R1 := fun z3 => []) ?_ (fun z3 => ?_)
  · clear h
    refine .reg rfl ?_
    refine .opp (P.fa .g0 fa_36_2 rfl) rfl ?_
    refine .op (V.ld (v := N a1.Kind) .t0 .k0 (.one isAgg3 rfl)) rfl ?_
    refine .opp (P.bin .t0 .k .eql) rfl ?_
    refine .opp (P.mov .t0) rfl ?_
    refine .split .k0 (fun c5 => ?_) (fun c5 => ?_)
    · rw [if_pos c5] at hj4
      refine .gyes rfl .g0 ?_
      refine .opp (P.mov .g2) rfl ?_
      refine .gyes rfl .g1 ?_
      refine .opp (P.nilc .t0) rfl ?_
      refine .gyes rfl .g1 ?_
      refine .opp (P.fa .t0 fa_105_0 rfl) rfl ?_
      refine .gyes rfl .g1 ?_
      refine .op (V.ld (v := N a0.side) .t0 .k1 (.one isAgg3 rfl)) rfl ?_
      refine .gyes rfl .g1 ?_
      refine .opp (P.bin .t0 .k .eql) rfl ?_
      refine .opp (P.pickT .t1 .t0) rfl ?_
      refine .opp (P.asg .t0) rfl ?_
      refine .nil ?_
      subst hj4
      exact .stj () (.cons Mm.m0 (.cons Mm.m1 (.cons Mm.m2 .nil))) (.of (.cons .k0 (.cons .k0 .nil))) .nil
    · rw [if_neg (ne_true_of_eq_false c5)] at hj4
      refine .gno rfl .g0 rfl rfl ?_
      refine .gno rfl .g0 rfl rfl ?_
      refine .gno rfl .g0 rfl rfl ?_
      refine .gno rfl .g0 rfl rfl ?_
      refine .gno rfl .g0 rfl rfl ?_
      refine .opp (P.pickF .t0 .k) rfl ?_
      refine .opp (P.asg .t0) rfl ?_
      refine .nil ?_
      subst hj4
      exact .stj () (.cons Mm.m0 (.cons Mm.m1 (.cons Mm.m2 .nil))) (.of (.cons .k0 (.cons .k0 .nil))) .nil
  · clear hj4
    refine .cond .t0 (fun c6 => ?_) (fun c6 => ?_)
    · rw [if_pos c6] at h
      refine .reg rfl ?_
      refine .opp (P.mov .t1) rfl ?_
      refine .opp (P.fa .g1 fa_36_5 rfl) rfl ?_
      refine .opp (P.fa .t0 fa_32_0 rfl) rfl ?_
      refine .op (V.ld (v := N a1.Inv.User) .t0 .k0 (.one isAgg3 rfl)) rfl ?_
      refine .opp (P.fa .g2 fa_36_5 rfl) rfl ?_
      refine .opp (P.fa .t0 fa_32_3 rfl) rfl ?_
      refine .op (V.ld (v := N a1.Inv.Send) .t0 .k0 (.one isAgg3 rfl)) rfl ?_
      refine .opp (P.fa .t3 fa_36_6 rfl) rfl ?_
      refine .opp (P.fa .t0 fa_34_0 rfl) rfl ?_
      refine .op (V.ld (v := Ag (api_Wide.cs a1.Var.Amount)) .t0 .k0 (.agg isAgg30 sizeOf30 rfl rfl)) rfl ?_
      refine .opg (G.call call58 (.cons .t3 (.cons .t2 (.cons .t1 (.cons .t0 .nil)))) (S_history_teller_out b00 a0 a1.Inv.User a1.Inv.Send a1.Var.Amount _ rfl) (.cons .k1 .nil) .nil (fun _ _ => rfl) (fun _ _ => rfl) rfl) rfl fun _ _ => ?_
      refine .drop .k0 ?_
      refine .nil ?_
      refine .inn ?_
      subst h
      exact .finwn () (.r0 rfl) trivial (Ls.of (.cons .k0 .nil)) .nil
    · rw [if_neg (ne_true_of_eq_false c6)] at h
      obtain ⟨y7, hj9, h⟩ := thn_eq h
      refine .cutx (γ := Unit) (E1 := fun z8 => [(28, Bo y7), (3, pt b1 0), (0, pt b00 0)]) (L1 := fun z8 => [blk b1 36 (api_Tx.cs a1), blk b00 105 (history_teller.cs a0)]) (R1 := fun z8 => []) ?_ (fun z8 => ?_)
      · clear h
        refine .reg rfl ?_
        refine .opp (P.fa .g0 fa_36_2 rfl) rfl ?_
        refine .op (V.ld (v := N a1.Kind) .t0 .k0 (.one isAgg3 rfl)) rfl ?_
        refine .opp (P.bin .t0 .k .eql) rfl ?_
        refine .opp (P.mov .t0) rfl ?_
        refine .split .k0 (fun c10 => ?_) (fun c10 => ?_)
        · rw [if_pos c10] at hj9
          refine .gyes rfl .g0 ?_
          refine .opp (P.mov .g2) rfl ?_
          refine .gyes rfl .g1 ?_
          refine .opp (P.nilc .t0) rfl ?_
          refine .gyes rfl .g1 ?_
          refine .opp (P.fa .t0 fa_105_0 rfl) rfl ?_
          refine .gyes rfl .g1 ?_
          refine .op (V.ld (v := N a0.side) .t0 .k1 (.one isAgg3 rfl)) rfl ?_
          refine .gyes rfl .g1 ?_
          refine .opp (P.bin .t0 .k .eql) rfl ?_
          refine .opp (P.pickT .t1 .t0) rfl ?_
          refine .opp (P.asg .t0) rfl ?_
          refine .nil ?_
          subst hj9
          exact .stj () (.cons Mm.m0 (.cons Mm.m1 (.cons Mm.m2 .nil))) (.of (.cons .k0 (.cons .k0 .nil))) .nil
        · rw [if_neg (ne_true_of_eq_false c10)] at hj9
          refine .gno rfl .g0 rfl rfl ?_
          refine .gno rfl .g0 rfl rfl ?_
          refine .gno rfl .g0 rfl rfl ?_
          refine .gno rfl .g0 rfl rfl ?_
          refine .gno rfl .g0 rfl rfl ?_
          refine .opp (P.pickF .t0 .k) rfl ?_
          refine .opp (P.asg .t0) rfl ?_
          refine .nil ?_
          subst hj9
          exact .stj () (.cons Mm.m0 (.cons Mm.m1 (.cons Mm.m2 .nil))) (.of (.cons .k0 (.cons .k0 .nil))) .nil
      · clear hj9
        refine .cond .t0 (fun c11 => ?_) (fun c11 => ?_)
        · rw [if_pos c11] at h
          refine .seq ?_
          refine .reg rfl ?_
          refine .opp (P.fa .g0 fa_36_6 rfl) rfl ?_
          refine .opp (P.fa .t0 fa_34_0 rfl) rfl ?_
          refine .op (V.ld (v := Ag (api_Wide.cs a1.Var.Amount)) .t0 .k0 (.agg isAgg30 sizeOf30 rfl rfl)) rfl ?_
          refine .opp (P.fa .g1 fa_36_7 rfl) rfl ?_
          refine .op (V.ld (v := Ag (api_Wide.cs a1.Fee)) .t0 .k0 (.agg isAgg30 sizeOf30 rfl rfl)) rfl ?_
          refine .opg (G.call call39 (.cons .t1 (.cons .t0 .nil)) (S_wide_Sub a1.Var.Amount a1.Fee _ rfl) .nil .nil (fun _ _ => rfl) (fun _ _ => rfl) rfl) rfl fun _ _ => ?_
          refine .opp (P.mov .t0) rfl ?_
          refine .opp (P.ext (v := Ag (api_Wide.cs (wide_Sub a1.Var.Amount a1.Fee).1)) .g0 rfl) rfl ?_
          refine .opp (P.ext (v := Bo (wide_Sub a1.Var.Amount a1.Fee).2) .t1 rfl) rfl ?_
          refine .opx (X.alc (cs := (api_Wide.cs ⟨0, 0, 0, 0⟩)) zeroValue30 rfl) rfl fun b12 => ?_
          refine .opg (G.str .t2 .g0 .k0 (.mk (cs' := (api_Wide.cs (wide_Sub a1.Var.Amount a1.Fee).1)) sizeOf30 rfl rfl rfl rfl)) rfl fun _ _ => ?_
          refine .op0 (OpP.toV (P.asg .t1)) rfl ?_
          refine .nil ?_
          refine .then ?_
          refine .seq ?_
          refine .reg rfl ?_
          refine .opp (P.mov .g2) rfl ?_
          refine .opp (P.fa .g2 fa_36_5 rfl) rfl ?_
          refine .opp (P.fa .t0 fa_32_5 rfl) rfl ?_
          refine .op (V.ld (v := N a1.Inv.To) .t0 .k1 (.one isAgg3 rfl)) rfl ?_
          refine .opp (P.fa .g3 fa_36_5 rfl) rfl ?_
          refine .opp (P.fa .t0 fa_32_4 rfl) rfl ?_
          refine .op (V.ld (v := N a1.Inv.Recv) .t0 .k1 (.one isAgg3 rfl)) rfl ?_
          refine .op (V.ld (v := Ag (api_Wide.cs (wide_Sub a1.Var.Amount a1.Fee).1)) .t3 .k0 (.agg isAgg30 sizeOf30 rfl rfl)) rfl ?_
          refine .opg (G.call call59 (.cons .t3 (.cons .t2 (.cons .t1 (.cons .t0 .nil)))) (S_history_teller_in b00 a0 a1.Inv.To a1.Inv.Recv (wide_Sub a1.Var.Amount a1.Fee).1 _ rfl) (.cons .k2 .nil) .nil (fun _ _ => rfl) (fun _ _ => rfl) rfl) rfl fun _ _ => ?_
          refine .drop .k0 ?_
          refine .nil ?_
          refine .then ?_
          refine .reg rfl ?_
          refine .opp (P.mov .t1) rfl ?_
          refine .opp (P.fa .g1 fa_36_0 rfl) rfl ?_
          refine .op (V.ld (v := N a1.From) .t0 .k2 (.one isAgg3 rfl)) rfl ?_
          refine .opp (P.fa .g2 fa_36_5 rfl) rfl ?_
          refine .opp (P.fa .t0 fa_32_4 rfl) rfl ?_
          refine .op (V.ld (v := N a1.Inv.Recv) .t0 .k2 (.one isAgg3 rfl)) rfl ?_
          refine .opp (P.fa .t3 fa_36_7 rfl) rfl ?_
          refine .op (V.ld (v := Ag (api_Wide.cs a1.Fee)) .t0 .k2 (.agg isAgg30 sizeOf30 rfl rfl)) rfl ?_
          refine .opg (G.call call59 (.cons .t3 (.cons .t2 (.cons .t1 (.cons .t0 .nil)))) (S_history_teller_in b00 (history_teller_in a0 a1.Inv.To a1.Inv.Recv (wide_Sub a1.Var.Amount a1.Fee).1) a1.From a1.Inv.Recv a1.Fee _ rfl) (.cons .k0 .nil) .nil (fun _ _ => rfl) (fun _ _ => rfl) rfl) rfl fun _ _ => ?_
          refine .drop .k0 ?_
          refine .nil ?_
          refine .inn ?_
          subst h
          exact .finwn () (.r0 rfl) trivial (Ls.of (.cons .k0 .nil)) .nil
        · rw [if_neg (ne_true_of_eq_false c11)] at h
          obtain ⟨y13, hj15, h⟩ := thn_eq h
          refine .cutx (γ := Unit) (E1 := fun z14 => [(66, Bo y13), (3, pt b1 0), (0, pt b00 0)]) (L1 := fun z14 => [blk b1 36 (api_Tx.cs a1), blk b00 105 (history_teller.cs a0)]) (R1 := fun z14 => []) ?_ (fun z14 => ?_)
          · clear h
            refine .reg rfl ?_
            refine .opp (P.fa .g0 fa_36_2 rfl) rfl ?_
            refine .op (V.ld (v := N a1.Kind) .t0 .k0 (.one isAgg3 rfl)) rfl ?_
            refine .opp (P.bin .t0 .k .eql) rfl ?_
            refine .opp (P.mov .t0) rfl ?_
            refine .split .k0 (fun c16 => ?_) (fun c16 => ?_)
            · rw [if_pos c16] at hj15
              refine .gyes rfl .g0 ?_
              refine .opp (P.mov .g2) rfl ?_
              refine .gyes rfl .g1 ?_
              refine .opp (P.nilc .t0) rfl ?_
              refine .gyes rfl .g1 ?_
              refine .opp (P.fa .t0 fa_105_0 rfl) rfl ?_
              refine .gyes rfl .g1 ?_
              refine .op (V.ld (v := N a0.side) .t0 .k1 (.one isAgg3 rfl)) rfl ?_
              refine .gyes rfl .g1 ?_
              refine .opp (P.bin .t0 .k .eql) rfl ?_
              refine .opp (P.pickT .t1 .t0) rfl ?_
              refine .opp (P.asg .t0) rfl ?_
              refine .nil ?_
              subst hj15
              exact .stj () (.cons Mm.m0 (.cons Mm.m1 (.cons Mm.m2 .nil))) (.of (.cons .k0 (.cons .k0 .nil))) .nil
            · rw [if_neg (ne_true_of_eq_false c16)] at hj15
              refine .gno rfl .g0 rfl rfl ?_
              refine .gno rfl .g0 rfl rfl ?_
              refine .gno rfl .g0 rfl rfl ?_
              refine .gno rfl .g0 rfl rfl ?_
              refine .gno rfl .g0 rfl rfl ?_
              refine .opp (P.pickF .t0 .k) rfl ?_
              refine .opp (P.asg .t0) rfl ?_
              refine .nil ?_
              subst hj15
              exact .stj () (.cons Mm.m0 (.cons Mm.m1 (.cons Mm.m2 .nil))) (.of (.cons .k0 (.cons .k0 .nil))) .nil
          · clear hj15
            refine .cond .t0 (fun c17 => ?_) (fun c17 => ?_)
            · rw [if_pos c17] at h
              refine .reg rfl ?_
              refine .opp (P.mov .t1) rfl ?_
              refine .opp (P.fa .g1 fa_36_5 rfl) rfl ?_
              refine .opp (P.fa .t0 fa_32_0 rfl) rfl ?_
              refine .op (V.ld (v := N a1.Inv.User) .t0 .k0 (.one isAgg3 rfl)) rfl ?_
              refine .opp (P.fa .g2 fa_36_5 rfl) rfl ?_
              refine .opp (P.fa .t0 fa_32_3 rfl) rfl ?_
              refine .op (V.ld (v := N a1.Inv.Send) .t0 .k0 (.one isAgg3 rfl)) rfl ?_
              refine .opp (P.fa .t3 fa_36_6 rfl) rfl ?_
              refine .opp (P.fa .t0 fa_34_0 rfl) rfl ?_
              refine .op (V.ld (v := Ag (api_Wide.cs a1.Var.Amount)) .t0 .k0 (.agg isAgg30 sizeOf30 rfl rfl)) rfl ?_
              refine .opg (G.call call59 (.cons .t3 (.cons .t2 (.cons .t1 (.cons .t0 .nil)))) (S_history_teller_in b00 a0 a1.Inv.User a1.Inv.Send a1.Var.Amount _ rfl) (.cons .k1 .nil) .nil (fun _ _ => rfl) (fun _ _ => rfl) rfl) rfl fun _ _ => ?_
              refine .drop .k0 ?_
              refine .nil ?_
              refine .inn ?_
              subst h
              exact .finwn () (.r0 rfl) trivial (Ls.of (.cons .k0 .nil)) .nil
            · rw [if_neg (ne_true_of_eq_false c17)] at h
              refine .skip ?_
              refine .inn ?_
              subst h
              exact .finwn () (.r0 rfl) trivial (Ls.of (.cons .k1 .nil)) .nil
attribute [irreducible] history_teller_deal
noncomputable def history_teller_tell (a0 : history_teller) (a1 : api_Event) : history_Line × history_teller :=
  if (decide (a1.Code ≠ 0)) = true then (((history_teller_out (⟨a0.side, a0.account, a0.asset, ⟨a1.Time, a1.Tx.Kind, ⟨0, 0, 0, 0⟩, ⟨0, 0, 0, 0⟩⟩⟩ : history_teller) a1.Tx.From 0 (wide_Of 1)).line, (history_teller_out (⟨a0.side, a0.account, a0.asset, ⟨a1.Time, a1.Tx.Kind, ⟨0, 0, 0, 0⟩, ⟨0, 0, 0, 0⟩⟩⟩ : history_teller) a1.Tx.From 0 (wide_Of 1)))) else (thn (if (decide (a1.Tx.Kind = 1)) = true then ((history_teller_in (history_teller_out (history_teller_out (⟨a0.side, a0.account, a0.asset, ⟨a1.Time, a1.Tx.Kind, ⟨0, 0, 0, 0⟩, ⟨0, 0, 0, 0⟩⟩⟩ : history_teller) a1.Tx.From 0 (wide_Of 1)) a1.Tx.From a1.Tx.Asset a1.Tx.Amount) a1.Tx.Inv.To a1.Tx.Asset a1.Tx.Amount)) else (if (decide (a1.Tx.Kind = 2)) = true then ((history_teller_out (history_teller_out (⟨a0.side, a0.account, a0.asset, ⟨a1.Time, a1.Tx.Kind, ⟨0, 0, 0, 0⟩, ⟨0, 0, 0, 0⟩⟩⟩ : history_teller) a1.Tx.From 0 (wide_Of 1)) a1.Tx.From a1.Tx.Asset a1.Tx.Amount)) else (if (decide (a1.Tx.Kind = 3)) = true then ((history_teller_in (history_teller_out (⟨a0.side, a0.account, a0.asset, ⟨a1.Time, a1.Tx.Kind, ⟨0, 0, 0, 0⟩, ⟨0, 0, 0, 0⟩⟩⟩ : history_teller) a1.Tx.From 0 (wide_Of 1)) a1.Tx.From a1.Tx.Asset a1.Tx.Amount)) else ((history_teller_deal (history_teller_out (⟨a0.side, a0.account, a0.asset, ⟨a1.Time, a1.Tx.Kind, ⟨0, 0, 0, 0⟩, ⟨0, 0, 0, 0⟩⟩⟩ : history_teller) a1.Tx.From 0 (wide_Of 1)) a1.Tx))))) fun (y5 : history_teller) => (y5.line, y5))
set_option maxRecDepth 20000 in
set_option maxHeartbeats 1000000 in
theorem S_history_teller_tell (b00 : Nat) (a0 : history_teller) (a1 : api_Event) (r : history_Line × history_teller) (h : history_teller_tell a0 a1 = r) :
    SpecF Tryz.prog 52 [pt b00 0, Ag (api_Event.cs a1)] [blk b00 105 (history_teller.cs a0)] [] (fun z : Unit => True) (fun z => Ag (history_Line.cs r.1)) (fun z M => blk b00 105 (history_teller.cs r.2) ::  M) (fun z M =>  M) := by
  refine .of func52 rfl ntmps52 rfl fun w0 D0 G0 => ?_
  unfold history_teller_tell at h
  refine .seq ?_
  refine .reg rfl ?_
  refine .opx (X.box (cs := (api_Event.cs a1)) .t1 rfl) rfl fun b1 => ?_
  refine .opx (X.alc (cs := (history_Line.cs ⟨0, 0, ⟨0, 0, 0, 0⟩, ⟨0, 0, 0, 0⟩⟩)) zeroValue87 rfl) rfl fun b2 => ?_
  refine .nil ?_
  refine .then ?_
  refine .seq ?_
  refine .reg rfl ?_
  refine .opp (P.fa .g1 fa_70_2 rfl) rfl ?_
  refine .op (V.ld (v := Ag (api_Tx.cs a1.Tx)) .t0 .k1 (.agg isAgg36 sizeOf36 rfl rfl)) rfl ?_
  refine .opx (X.alc (cs := (api_Tx.cs ⟨0, 0, 0, 0, ⟨0, 0, 0, 0⟩, ⟨0, ⟨#[]⟩, 0, 0, 0, 0, ⟨#[]⟩⟩, ⟨⟨0, 0, 0, 0⟩, 0⟩, ⟨0, 0, 0, 0⟩, ⟨#[]⟩⟩)) zeroValue36 rfl) rfl fun b3 => ?_
  refine .opg (G.str .t1 .g0 .k0 (.mk (cs' := (api_Tx.cs a1.Tx)) sizeOf36 rfl rfl rfl rfl)) rfl fun _ _ => ?_
  refine .nil ?_
  refine .then ?_
  refine .seq ?_
  refine .reg rfl ?_
  refine .opp (P.mov .g3) rfl ?_
  refine .opp (P.fa .g3 fa_70_0 rfl) rfl ?_
  refine .op (V.ld (v := N a1.Time) .t0 .k2 (.one isAgg3 rfl)) rfl ?_
  refine .opp (P.fa .g2 fa_36_2 rfl) rfl ?_
  refine .op (V.ld (v := N a1.Tx.Kind) .t0 .k0 (.one isAgg3 rfl)) rfl ?_
  refine .opp (P.bld (v := Ag (history_Line.cs ⟨a1.Time, a1.Tx.Kind, ⟨0, 0, 0, 0⟩, ⟨0, 0, 0, 0⟩⟩)) (.cons .t1 (.cons .t0 .nil)) (bld_run zeroValue87 runUnderlying87 pl_87 (by kernel_rfl))) rfl ?_
  refine .opp (P.nilc .t1) rfl ?_
  refine .opp (P.fa .t0 fa_105_3 rfl) rfl ?_
  refine .opg (G.str .t1 .t0 .k3 (.mk (cs' := (history_teller.cs ⟨a0.side, a0.account, a0.asset, ⟨a1.Time, a1.Tx.Kind, ⟨0, 0, 0, 0⟩, ⟨0, 0, 0, 0⟩⟩⟩)) sizeOf87 rfl rfl rfl rfl)) rfl fun _ _ => ?_
  refine .nil ?_
  refine .then ?_
  refine .seq ?_
  refine .drawl [blk b3 36 (api_Tx.cs a1.Tx), blk b2 87 (history_Line.cs ⟨0, 0, ⟨0, 0, 0, 0⟩, ⟨0, 0, 0, 0⟩⟩), blk b1 70 (api_Event.cs a1)] [] (Ls.of (.cons .k1 (.cons .k1 (.cons .k1 .nil)))) Rs.nil 5 (.on 0 .pu (.on 1 .pu (.on 2 .ld (.on 3 .go (.on 4 .go .nl))))) follows_mixed (.thn .body) (by kernel_rfl) ?_
  refine .dpu rfl (.n rfl) (P.mov .g3) rfl rfl ?_
  refine .dpu rfl (.n rfl) (P.fa .g1 fa_36_0 rfl) rfl rfl ?_
  refine .dld rfl (.n rfl) (V.ld (v := N a1.Tx.From) .t0 .k0 (.one isAgg3 rfl)) (fun _ h => (h.imp (Ls.of (.cons .k1 (.cons .k1 (.cons .k1 .nil))))).ro Rs.nil) rfl rfl ?_
  refine .dgo rfl (.n rfl) (G.call call36 (.cons .k .nil) (S_wide_Of 1 _ rfl) .nil .nil (fun _ _ => rfl) (fun _ _ => rfl) rfl) (.inr fun _ _ _ h => (h.imp (Ls.of (.cons .k1 (.cons .k1 (.cons .k1 .nil))))).ro Rs.nil) fun _ _ => ?_
  refine .dgo rfl (.n rfl) (G.call call58 (.cons .t2 (.cons .t1 (.cons .k (.cons .t0 .nil)))) (S_history_teller_out b00 (⟨a0.side, a0.account, a0.asset, ⟨a1.Time, a1.Tx.Kind, ⟨0, 0, 0, 0⟩, ⟨0, 0, 0, 0⟩⟩⟩ : history_teller) a1.Tx.From 0 (wide_Of 1) _ rfl) (.cons .k0 .nil) .nil (fun _ _ => rfl) (fun _ _ => rfl) rfl) (.inr fun _ _ _ h => (h.imp (Ls.of (.cons .k1 (.cons .k1 (.cons .k1 .nil))))).ro Rs.nil) fun _ _ => ?_
  refine .drop .k0 ?_
  refine .dnil ?_
  refine .then ?_
  refine .seq ?_
  refine .seq ?_
  refine .reg rfl ?_
  refine .opp (P.fa .t2 fa_70_1 rfl) rfl ?_
  refine .op (V.ld (v := N a1.Code) .t0 .k3 (.one isAgg63 rfl)) rfl ?_
  refine .opp (P.bin .t0 .k .neq) rfl ?_
  refine .nil ?_
  refine .then ?_
  refine .cond .t0 (fun c4 => ?_) (fun c4 => ?_)
  · rw [if_pos c4] at h
    refine .seq ?_
    refine .reg rfl ?_
    refine .opp (P.mov .t2) rfl ?_
    refine .opp (P.nilc .t0) rfl ?_
    refine .opp (P.fa .t0 fa_105_3 rfl) rfl ?_
    refine .op (V.ld (v := Ag (history_Line.cs (history_teller_out (⟨a0.side, a0.account, a0.asset, ⟨a1.Time, a1.Tx.Kind, ⟨0, 0, 0, 0⟩, ⟨0, 0, 0, 0⟩⟩⟩ : history_teller) a1.Tx.From 0 (wide_Of 1)).line)) .t0 .k0 (.agg isAgg87 sizeOf87 rfl rfl)) rfl ?_
    refine .opg (G.str .t0 .g1 .k2 (.mk (cs' := (history_Line.cs (history_teller_out (⟨a0.side, a0.account, a0.asset, ⟨a1.Time, a1.Tx.Kind, ⟨0, 0, 0, 0⟩, ⟨0, 0, 0, 0⟩⟩⟩ : history_teller) a1.Tx.From 0 (wide_Of 1)).line)) sizeOf87 rfl rfl rfl rfl)) rfl fun _ _ => ?_
    refine .nil ?_
    refine .then ?_
    refine .ret ?_
    refine .thr ?_
    subst h
    exact .finw () (.r1 rfl (.cell .g1 .k0 (.agg isAgg87 sizeOf87 rfl rfl))) trivial (Ls.of (.cons .k1 .nil)) .nil
  · rw [if_neg (ne_true_of_eq_false c4)] at h
    refine .skip ?_
    refine .then ?_
    obtain ⟨y5, hj7, h⟩ := thn_eq h
    refine .cutx (γ := Unit) (E1 := fun z6 => [(4, pt b2 0), (0, pt b00 0)]) (L1 := fun z6 => [blk b2 87 (history_Line.cs ⟨0, 0, ⟨0, 0, 0, 0⟩, ⟨0, 0, 0, 0⟩⟩), blk b00 105 (history_teller.cs y5)]) (R1 := fun z6 => []) ?_ (fun z6 => ?_)
    · clear h
      refine .seq ?_
      refine .reg rfl ?_
      refine .opp (P.fa .g0 fa_36_2 rfl) rfl ?_
      refine .op (V.ld (v := N a1.Tx.Kind) .t0 .k1 (.one isAgg3 rfl)) rfl ?_
      refine .nil ?_
      refine .then ?_
      refine .block ?_
      refine .seq ?_
      refine .reg rfl ?_
      refine .opp (P.bin .g0 .k .eql) rfl ?_
      refine .opp (P.asg .t0) rfl ?_
      refine .nil ?_
      refine .then ?_
      refine .cond .t0 (fun c8 => ?_) (fun c8 => ?_)
      · rw [if_pos c8] at hj7
        refine .seq ?_
        refine .reg rfl ?_
        refine .opp (P.mov .g3) rfl ?_
        refine .opp (P.fa .g2 fa_36_0 rfl) rfl ?_
        refine .op (V.ld (v := N a1.Tx.From) .t0 .k1 (.one isAgg3 rfl)) rfl ?_
        refine .opp (P.fa .g3 fa_36_3 rfl) rfl ?_
        refine .op (V.ld (v := N a1.Tx.Asset) .t0 .k1 (.one isAgg3 rfl)) rfl ?_
        refine .opp (P.fa .g4 fa_36_4 rfl) rfl ?_
        refine .op (V.ld (v := Ag (api_Wide.cs a1.Tx.Amount)) .t0 .k1 (.agg isAgg30 sizeOf30 rfl rfl)) rfl ?_
        refine .opg (G.call call58 (.cons .t3 (.cons .t2 (.cons .t1 (.cons .t0 .nil)))) (S_history_teller_out b00 (history_teller_out (⟨a0.side, a0.account, a0.asset, ⟨a1.Time, a1.Tx.Kind, ⟨0, 0, 0, 0⟩, ⟨0, 0, 0, 0⟩⟩⟩ : history_teller) a1.Tx.From 0 (wide_Of 1)) a1.Tx.From a1.Tx.Asset a1.Tx.Amount _ rfl) (.cons .k0 .nil) .nil (fun _ _ => rfl) (fun _ _ => rfl) rfl) rfl fun _ _ => ?_
        refine .drop .k0 ?_
        refine .nil ?_
        refine .then ?_
        refine .reg rfl ?_
        refine .opp (P.mov .g3) rfl ?_
        refine .opp (P.fa .g2 fa_36_5 rfl) rfl ?_
        refine .opp (P.fa .t0 fa_32_5 rfl) rfl ?_
        refine .op (V.ld (v := N a1.Tx.Inv.To) .t0 .k1 (.one isAgg3 rfl)) rfl ?_
        refine .opp (P.fa .g3 fa_36_3 rfl) rfl ?_
        refine .op (V.ld (v := N a1.Tx.Asset) .t0 .k1 (.one isAgg3 rfl)) rfl ?_
        refine .opp (P.fa .t4 fa_36_4 rfl) rfl ?_
        refine .op (V.ld (v := Ag (api_Wide.cs a1.Tx.Amount)) .t0 .k1 (.agg isAgg30 sizeOf30 rfl rfl)) rfl ?_
        refine .opg (G.call call59 (.cons .t3 (.cons .t2 (.cons .t1 (.cons .t0 .nil)))) (S_history_teller_in b00 (history_teller_out (history_teller_out (⟨a0.side, a0.account, a0.asset, ⟨a1.Time, a1.Tx.Kind, ⟨0, 0, 0, 0⟩, ⟨0, 0, 0, 0⟩⟩⟩ : history_teller) a1.Tx.From 0 (wide_Of 1)) a1.Tx.From a1.Tx.Asset a1.Tx.Amount) a1.Tx.Inv.To a1.Tx.Asset a1.Tx.Amount _ rfl) (.cons .k0 .nil) .nil (fun _ _ => rfl) (fun _ _ => rfl) rfl) rfl fun _ _ => ?_
        refine .drop .k0 ?_
        refine .nil ?_
        refine .inn ?_
        subst hj7
        exact .stj () (.cons Mm.m1 (.cons Mm.m2 .nil)) (.of (.cons .k2 (.cons .k0 .nil))) .nil
      · rw [if_neg (ne_true_of_eq_false c8)] at hj7
        refine .seq ?_
        refine .reg rfl ?_
        refine .opp (P.bin .g0 .k .eql) rfl ?_
        refine .opp (P.asg .t0) rfl ?_
        refine .nil ?_
        refine .then ?_
        refine .cond .t0 (fun c9 => ?_) (fun c9 => ?_)
        · rw [if_pos c9] at hj7
          refine .reg rfl ?_
          refine .opp (P.mov .g3) rfl ?_
          refine .opp (P.fa .g2 fa_36_0 rfl) rfl ?_
          refine .op (V.ld (v := N a1.Tx.From) .t0 .k1 (.one isAgg3 rfl)) rfl ?_
          refine .opp (P.fa .g3 fa_36_3 rfl) rfl ?_
          refine .op (V.ld (v := N a1.Tx.Asset) .t0 .k1 (.one isAgg3 rfl)) rfl ?_
          refine .opp (P.fa .t4 fa_36_4 rfl) rfl ?_
          refine .op (V.ld (v := Ag (api_Wide.cs a1.Tx.Amount)) .t0 .k1 (.agg isAgg30 sizeOf30 rfl rfl)) rfl ?_
          refine .opg (G.call call58 (.cons .t3 (.cons .t2 (.cons .t1 (.cons .t0 .nil)))) (S_history_teller_out b00 (history_teller_out (⟨a0.side, a0.account, a0.asset, ⟨a1.Time, a1.Tx.Kind, ⟨0, 0, 0, 0⟩, ⟨0, 0, 0, 0⟩⟩⟩ : history_teller) a1.Tx.From 0 (wide_Of 1)) a1.Tx.From a1.Tx.Asset a1.Tx.Amount _ rfl) (.cons .k0 .nil) .nil (fun _ _ => rfl) (fun _ _ => rfl) rfl) rfl fun _ _ => ?_
          refine .drop .k0 ?_
          refine .nil ?_
          refine .inn ?_
          subst hj7
          exact .stj () (.cons Mm.m1 (.cons Mm.m2 .nil)) (.of (.cons .k2 (.cons .k0 .nil))) .nil
        · rw [if_neg (ne_true_of_eq_false c9)] at hj7
          refine .seq ?_
          refine .reg rfl ?_
          refine .opp (P.bin .t0 .k .eql) rfl ?_
          refine .opp (P.asg .t0) rfl ?_
          refine .nil ?_
          refine .then ?_
          refine .cond .t0 (fun c10 => ?_) (fun c10 => ?_)
          · rw [if_pos c10] at hj7
            refine .reg rfl ?_
            refine .opp (P.mov .g2) rfl ?_
            refine .opp (P.fa .g1 fa_36_0 rfl) rfl ?_
            refine .op (V.ld (v := N a1.Tx.From) .t0 .k1 (.one isAgg3 rfl)) rfl ?_
            refine .opp (P.fa .g2 fa_36_3 rfl) rfl ?_
            refine .op (V.ld (v := N a1.Tx.Asset) .t0 .k1 (.one isAgg3 rfl)) rfl ?_
            refine .opp (P.fa .t3 fa_36_4 rfl) rfl ?_
            refine .op (V.ld (v := Ag (api_Wide.cs a1.Tx.Amount)) .t0 .k1 (.agg isAgg30 sizeOf30 rfl rfl)) rfl ?_
            refine .opg (G.call call59 (.cons .t3 (.cons .t2 (.cons .t1 (.cons .t0 .nil)))) (S_history_teller_in b00 (history_teller_out (⟨a0.side, a0.account, a0.asset, ⟨a1.Time, a1.Tx.Kind, ⟨0, 0, 0, 0⟩, ⟨0, 0, 0, 0⟩⟩⟩ : history_teller) a1.Tx.From 0 (wide_Of 1)) a1.Tx.From a1.Tx.Asset a1.Tx.Amount _ rfl) (.cons .k0 .nil) .nil (fun _ _ => rfl) (fun _ _ => rfl) rfl) rfl fun _ _ => ?_
            refine .drop .k0 ?_
            refine .nil ?_
            refine .inn ?_
            subst hj7
            exact .stj () (.cons Mm.m0 (.cons Mm.m1 .nil)) (.of (.cons .k2 (.cons .k0 .nil))) .nil
          · rw [if_neg (ne_true_of_eq_false c10)] at hj7
            refine .reg rfl ?_
            refine .opp (P.mov .g2) rfl ?_
            refine .op (V.ld (v := Ag (api_Tx.cs a1.Tx)) .t1 .k1 (.agg isAgg36 sizeOf36 rfl rfl)) rfl ?_
            refine .opg (G.call call60 (.cons .t1 (.cons .t0 .nil)) (S_history_teller_deal b00 (history_teller_out (⟨a0.side, a0.account, a0.asset, ⟨a1.Time, a1.Tx.Kind, ⟨0, 0, 0, 0⟩, ⟨0, 0, 0, 0⟩⟩⟩ : history_teller) a1.Tx.From 0 (wide_Of 1)) a1.Tx _ rfl) (.cons .k0 .nil) .nil (fun _ _ => rfl) (fun _ _ => rfl) rfl) rfl fun _ _ => ?_
            refine .drop .k0 ?_
            refine .nil ?_
            refine .inn ?_
            subst hj7
            exact .stj () (.cons Mm.m0 (.cons Mm.m1 .nil)) (.of (.cons .k2 (.cons .k0 .nil))) .nil
    · clear hj7
      refine .seq ?_
      refine .reg rfl ?_
      refine .opp (P.mov .t1) rfl ?_
      refine .opp (P.nilc .t0) rfl ?_
      refine .opp (P.fa .t0 fa_105_3 rfl) rfl ?_
      refine .op (V.ld (v := Ag (history_Line.cs y5.line)) .t0 .k1 (.agg isAgg87 sizeOf87 rfl rfl)) rfl ?_
      refine .opg (G.str .t0 .g0 .k0 (.mk (cs' := (history_Line.cs y5.line)) sizeOf87 rfl rfl rfl rfl)) rfl fun _ _ => ?_
      refine .nil ?_
      refine .then ?_
      refine .ret ?_
      subst h
      exact .finw () (.r1 rfl (.cell .g0 .k0 (.agg isAgg87 sizeOf87 rfl rfl))) trivial (Ls.of (.cons .k1 .nil)) .nil
attribute [irreducible] history_teller_tell
noncomputable def history_Of (a0 : List api_Event) (a1 : Int) (a2 : Int) (a3 : Int) : Option ((List history_Line)) :=
  Option.bind (loopR (fun (i2 : Nat) (e5 : api_Event) (s3 : history_teller × (List history_Line)) => Option.bind (thn (if (decide (((history_teller_tell s3.1 e5).1.In : api_Wide) ≠ (⟨0, 0, 0, 0⟩ : api_Wide))) = true then true else (decide (((history_teller_tell s3.1 e5).1.Out : api_Wide) ≠ (⟨0, 0, 0, 0⟩ : api_Wide)))) fun (y24 : Bool) => if y24 = true then (grd ((s3.2.length + ([(history_teller_tell s3.1 e5).1] : List history_Line).length) * 80 ≤ 140737488355328) <| some ((s3.2 ++ ([(history_teller_tell s3.1 e5).1] : List history_Line)))) else (some s3.2)) fun (y16 : (List history_Line)) => some (.nx (((history_teller_tell s3.1 e5).2, y16)))) 0 a0 (⟨bandK .i64 a1 1, a2, a3, ⟨0, 0, ⟨0, 0, 0, 0⟩, ⟨0, 0, 0, 0⟩⟩⟩, [])) fun o6 => Lo.on o6 fun (s3 : history_teller × (List history_Line)) => some s3.2
set_option maxRecDepth 20000 in
set_option maxHeartbeats 1000000 in
theorem S_history_Of (v00 : Value) (a0 : List api_Event) (a1 : Int) (a2 : Int) (a3 : Int) (r : (List history_Line)) (h : history_Of a0 a1 a2 a3 = some r) :
    SpecF Tryz.prog 37 [v00, N a1, N a2, N a3] [] [rows 27 v00 (a0.map api_Event.cs)] (fun z : Value => True) (fun z => z) (fun z M => lst 87 10 z (r.map history_Line.cs) ::  M) (fun z M =>  M) := by
  refine .of func37 rfl ntmps37 rfl fun w0 D0 G0 => ?_
  unfold history_Of at h
  refine .seq ?_
  refine .reg rfl ?_
  refine .op0 (OpP.toV (P.asg .k)) rfl ?_
  refine .nil ?_
  refine .then ?_
  refine .seq ?_
  refine .reg rfl ?_
  refine .opp (P.mov .t1) rfl ?_
  refine .opp (P.bin .t0 .k .and) rfl ?_
  refine .opp (P.mov .t2) rfl ?_
  refine .opp (P.mov .t3) rfl ?_
  refine .opp (P.bld (v := Ag (history_teller.cs ⟨bandK .i64 a1 1, a2, a3, ⟨0, 0, ⟨0, 0, 0, 0⟩, ⟨0, 0, 0, 0⟩⟩⟩)) (.cons .t2 (.cons .t1 (.cons .t0 .nil))) (bld_run zeroValue105 runUnderlying105 pl_105 (by kernel_rfl))) rfl ?_
  refine .opx (X.box (cs := (history_teller.cs ⟨bandK .i64 a1 1, a2, a3, ⟨0, 0, ⟨0, 0, 0, 0⟩, ⟨0, 0, 0, 0⟩⟩⟩)) .t0 rfl) rfl fun b1 => ?_
  refine .opp (P.asg .t0) rfl ?_
  refine .nil ?_
  refine .then ?_
  refine .seq ?_
  refine .reg rfl ?_
  refine .opp (P.asg .k) rfl ?_
  refine .nil ?_
  refine .then ?_
  refine .seq ?_
  refine .seq ?_
  refine .reg rfl ?_
  refine .opp (P.mov .t2) rfl ?_
  refine .op (V.lnr (n := a0.length) .g0 Mm.m0 map_len runUnderlying48) rfl ?_
  refine .opp (P.mov .k) rfl ?_
  refine .nil ?_
  refine .then ?_
  refine .block ?_
  refine .lnil 87 10 ?_
  obtain ⟨o6, ho7, h⟩ := bnd_eq h
  refine .lenq Mm.m0 fun hl13 => ?_
  rw [map_len] at hl13
  refine .loopR (γ := Value) (fun i2 (s3 : history_teller × (List history_Line)) z4 => [(22, N (i2 : Int)), (21, N (a0.length : Int)), (20, v00), (10, z4), (9, pt b1 0)]) (fun (s3 : history_teller × (List history_Line)) z4 => [blk b1 105 (history_teller.cs s3.1), lst 87 10 z4 (s3.2.map history_Line.cs)]) (fun (s3 : history_teller × (List history_Line)) z4 => [rows 27 v00 (a0.map api_Event.cs)]) nilSl ho7 (.cons Mm.m0 (.cons Mm.m1 (.cons Mm.m2 (.cons Mm.m3 (.cons Mm.m4 .nil))))) (.of (.cons .k1 (.cons .k0 .nil))) (.cons Mm.m0 .nil) (fun i2 s3 z4 hi14 hr10 => ?_)
  refine .seq ?_
  refine .reg rfl ?_
  refine .opp (P.bin (v := Bo (decide ((i2 : Int) < (a0.length : Nat)))) .g0 .g1 .lss) rfl ?_
  refine .nil ?_
  refine .then ?_
  refine .seq ?_
  refine .cond .t0 (fun c15 => ?_) (fun c15 => ?_)
  · obtain ⟨e5, hx12⟩ := get_of c15
    obtain ⟨ct11, hc8, hn9⟩ := loopR_at hx12 hr10
    refine .skip ?_
    refine .then ?_
    obtain ⟨y16, hj18, hc8⟩ := bnd_eq hc8
    refine .cutx (γ := Value) (E1 := fun z17 => [(10, z17), (22, N (i2 : Int)), (21, N (a0.length : Int)), (20, v00), (9, pt b1 0)]) (L1 := fun z17 => [blk b1 105 (history_teller.cs (history_teller_tell s3.1 e5).2), lst 87 10 z17 (y16.map history_Line.cs)]) (R1 := fun z17 => [rows 27 v00 (a0.map api_Event.cs)]) ?_ (fun z17 => ?_)
    · clear hc8
      refine .block ?_
      refine .seq ?_
      refine .reg rfl ?_
      refine .ixq Mm.m0 (map_get hx12) fun p19 q20 hq21 => ?_
      refine .opp (P.ixi (i := i2) .g0 rfl .g2 hq21 runUnderlying48 sizeOf70) rfl ?_
      refine .op (V.ldx0 (u := Ag (api_Event.cs e5)) .t0 hq21 Mm.m0 (map_get hx12) (.agg isAgg70 sizeOf70 rfl rfl)) rfl ?_
      refine .opx (X.alc (cs := (api_Event.cs ⟨0, 0, ⟨0, 0, 0, 0, ⟨0, 0, 0, 0⟩, ⟨0, ⟨#[]⟩, 0, 0, 0, 0, ⟨#[]⟩⟩, ⟨⟨0, 0, 0, 0⟩, 0⟩, ⟨0, 0, 0, 0⟩, ⟨#[]⟩⟩⟩)) zeroValue70 rfl) rfl fun b22 => ?_
      refine .opg (G.str .t1 .g0 .k0 (.mk (cs' := (api_Event.cs e5)) sizeOf70 rfl rfl rfl rfl)) rfl fun _ _ => ?_
      refine .nil ?_
      refine .then ?_
      refine .seq ?_
      refine .reg rfl ?_
      refine .opp (P.mov .g5) rfl ?_
      refine .op (V.ld (v := Ag (api_Event.cs e5)) .t1 .k0 (.agg isAgg70 sizeOf70 rfl rfl)) rfl ?_
      refine .opg (G.call call52 (.cons .t1 (.cons .t0 .nil)) (S_history_teller_tell b1 s3.1 e5 _ rfl) (.cons .k1 .nil) .nil (fun _ _ => rfl) (fun _ _ => rfl) rfl) rfl fun _ _ => ?_
      refine .opx (X.alc (cs := (history_Line.cs ⟨0, 0, ⟨0, 0, 0, 0⟩, ⟨0, 0, 0, 0⟩⟩)) zeroValue87 rfl) rfl fun b23 => ?_
      refine .opg (G.str .t1 .g0 .k0 (.mk (cs' := (history_Line.cs (history_teller_tell s3.1 e5).1)) sizeOf87 rfl rfl rfl rfl)) rfl fun _ _ => ?_
      refine .nil ?_
      refine .then ?_
      obtain ⟨y24, hj26, hj18⟩ := thn_eq hj18
      refine .cutx (γ := Unit) (E1 := fun z25 => [(38, Bo y24), (13, pt b23 0), (22, N (i2 : Int)), (21, N (a0.length : Int)), (20, v00), (10, z4), (9, pt b1 0)]) (L1 := fun z25 => [blk b23 87 (history_Line.cs (history_teller_tell s3.1 e5).1), blk b1 105 (history_teller.cs (history_teller_tell s3.1 e5).2), lst 87 10 z4 (s3.2.map history_Line.cs)]) (R1 := fun z25 => [rows 27 v00 (a0.map api_Event.cs)]) ?_ (fun z25 => ?_)
      · clear hj18
        refine .reg rfl ?_
        refine .opp (P.fa .g0 fa_87_2 rfl) rfl ?_
        refine .op (V.ld (v := Ag (api_Wide.cs (history_teller_tell s3.1 e5).1.In)) .t0 .k0 (.agg isAgg30 sizeOf30 rfl rfl)) rfl ?_
        refine .opp (P.bld (v := Ag (api_Wide.cs ⟨0, 0, 0, 0⟩)) .nil (bld_runA zeroValue30 runUnderlying30 sizeOf28 (by kernel_rfl))) rfl ?_
        refine .opp (P.bin .t1 .t0 (eq_30_neq _ _)) rfl ?_
        refine .opp (P.mov .t0) rfl ?_
        refine .split .k0 (fun c27 => ?_) (fun c27 => ?_)
        · rw [if_pos c27] at hj26
          refine .gno rfl .g0 rfl rfl ?_
          refine .gno rfl .g0 rfl rfl ?_
          refine .gno rfl .g0 rfl rfl ?_
          refine .gno rfl .g0 rfl rfl ?_
          refine .opp (P.pickT .t0 .k) rfl ?_
          refine .nil ?_
          subst hj26
          exact .stj () (.cons Mm.m0 (.cons Mm.m1 (.cons Mm.m2 (.cons Mm.m3 (.cons Mm.m4 (.cons Mm.m5 (.cons Mm.m6 .nil))))))) (.of (.cons .k0 (.cons .k0 (.cons .k1 .nil)))) (.cons Mm.m0 .nil)
        · rw [if_neg (ne_true_of_eq_false c27)] at hj26
          refine .gyes rfl .g0 ?_
          refine .opp (P.fa .g1 fa_87_3 rfl) rfl ?_
          refine .gyes rfl .g1 ?_
          refine .op (V.ld (v := Ag (api_Wide.cs (history_teller_tell s3.1 e5).1.Out)) .t0 .k0 (.agg isAgg30 sizeOf30 rfl rfl)) rfl ?_
          refine .gyes rfl .g1 ?_
          refine .opp (P.bld (v := Ag (api_Wide.cs ⟨0, 0, 0, 0⟩)) .nil (bld_runA zeroValue30 runUnderlying30 sizeOf28 (by kernel_rfl))) rfl ?_
          refine .gyes rfl .g2 ?_
          refine .opp (P.bin .t1 .t0 (eq_30_neq _ _)) rfl ?_
          refine .opp (P.pickF .t1 .t0) rfl ?_
          refine .nil ?_
          subst hj26
          exact .stj () (.cons Mm.m0 (.cons Mm.m1 (.cons Mm.m2 (.cons Mm.m3 (.cons Mm.m4 (.cons Mm.m5 (.cons Mm.m6 .nil))))))) (.of (.cons .k0 (.cons .k0 (.cons .k1 .nil)))) (.cons Mm.m0 .nil)
      · clear hj26
        refine .cond .t0 (fun c28 => ?_) (fun c28 => ?_)
        · rw [if_pos c28] at hj18
          refine .reg rfl ?_
          refine .opp (P.mov .g4) rfl ?_
          refine .op (V.ld (v := Ag (history_Line.cs (history_teller_tell s3.1 e5).1)) .t1 .k0 (.agg isAgg87 sizeOf87 rfl rfl)) rfl ?_
          refine .opg (G.bsl (cs := (history_Line.cs (history_teller_tell s3.1 e5).1)) .t0 runUnderlying84 sizeOf87 zeroValue87 rfl rfl rfl rfl rfl) rfl fun u29 _ => ?_
          obtain ⟨hb31, hj18⟩ := grd_eq hj18
          refine .opg (G.app (by_ := 80) .t1 .t0 .k3 (.inr (.inr ⟨_, Mm.m0⟩)) runUnderlying84 runUnderlying84 sizeOf87 typeInfo87 rfl rfl zeroValue87 rfl rfl (by simpa using hb31) rfl) rfl fun u30 _ => ?_
          refine .conseq .k0 (q := lst 87 10 u30 ((s3.2 ++ ([(history_teller_tell s3.1 e5).1] : List history_Line)).map history_Line.cs)) (fun _ hh => by simpa [List.map_append] using hh) ?_
          refine .drop .k4 ?_
          refine .opp (P.asg .t0) rfl ?_
          refine .nil ?_
          refine .inn ?_
          cases hj18
          exact .stj u30 (.cons Mm.m0 (.cons Mm.m1 (.cons Mm.m2 (.cons Mm.m3 (.cons Mm.m4 .nil))))) (.of (.cons .k3 (.cons .k0 .nil))) (.cons Mm.m0 .nil)
        · rw [if_neg (ne_true_of_eq_false c28)] at hj18
          refine .skip ?_
          refine .inn ?_
          cases hj18
          exact .stj z4 (.cons Mm.m4 (.cons Mm.m1 (.cons Mm.m2 (.cons Mm.m3 (.cons Mm.m5 .nil))))) (.of (.cons .k1 (.cons .k1 .nil))) (.cons Mm.m0 .nil)
    · clear hj18
      refine .reg rfl ?_
      refine .opp (P.bin .g1 .k (.addc (inc_ok (lt_of_get hx12) hl13))) rfl ?_
      refine .drop .k2 ?_
      refine .opp (P.mov .t0) rfl ?_
      refine .nil ?_
      cases hc8
      exact .rdR (((history_teller_tell s3.1 e5).2, y16)) z17 hn9 (lt_of_get hx12) (.cons Mm.m0 (.cons Mm.m2 (.cons Mm.m3 (.cons Mm.m1 (.cons Mm.m4 .nil))))) (.of (.cons .k0 (.cons .k0 .nil))) (.cons Mm.m0 .nil)
  · obtain rfl := loopR_end (le_of_not c15) hr10
    have h := dn_on h
    refine .exit ?_
    refine .thx ?_
    refine .thx ?_
    refine .inb ?_
    refine .then ?_
    refine .seq ?_
    refine .reg rfl ?_
    refine .opp (P.mov .t3) rfl ?_
    refine .opp (P.asg .t0) rfl ?_
    refine .nil ?_
    refine .then ?_
    refine .ret ?_
    cases h
    exact .finw z4 (.r1 rfl (.tmp .g0)) trivial (Ls.of (.cons .k1 .nil)) .nil
attribute [irreducible] history_Of
noncomputable def wide_Sum (a0 : List api_Wide) : Option (api_Wide × Bool) :=
  Option.bind (loopR (fun (i3 : Nat) (e6 : api_Wide) (s4 : api_Wide) => if (!(wide_Add s4 e6).2) = true then (Option.map Ct.rt (some (⟨0, 0, 0, 0⟩, false))) else (some (.nx ((wide_Add s4 e6).1)))) 0 a0 ⟨0, 0, 0, 0⟩) fun o7 => Lo.on o7 fun (s4 : api_Wide) => some (s4, true)
set_option maxRecDepth 20000 in
set_option maxHeartbeats 1000000 in
theorem S_wide_Sum (v00 : Value) (a0 : List api_Wide) (r : api_Wide × Bool) (h : wide_Sum a0 = some r) :
    SpecF Tryz.prog 38 [v00] [] [rows 4 v00 (a0.map api_Wide.cs)] (fun z : Unit => True) (fun z => Tu [Ag (api_Wide.cs r.1), Bo r.2]) (fun z M =>  M) (fun z M =>  M) := by
  refine .of func38 rfl ntmps38 rfl fun w0 D0 G0 => ?_
  unfold wide_Sum at h
  refine .seq ?_
  refine .reg rfl ?_
  refine .opx (X.alc (cs := (api_Wide.cs ⟨0, 0, 0, 0⟩)) zeroValue30 rfl) rfl fun b1 => ?_
  refine .op0 (OpP.toV (P.asg .k)) rfl ?_
  refine .nil ?_
  refine .then ?_
  refine .seq ?_
  refine .reg rfl ?_
  refine .opx (X.alc (cs := (api_Wide.cs ⟨0, 0, 0, 0⟩)) zeroValue30 rfl) rfl fun b2 => ?_
  refine .nil ?_
  refine .then ?_
  refine .seq ?_
  refine .seq ?_
  refine .reg rfl ?_
  refine .opp (P.mov .t2) rfl ?_
  refine .op (V.lnr (n := a0.length) .g0 Mm.m0 map_len runUnderlying83) rfl ?_
  refine .opp (P.mov .k) rfl ?_
  refine .nil ?_
  refine .then ?_
  refine .block ?_
  obtain ⟨o7, ho8, h⟩ := bnd_eq h
  refine .lenq Mm.m0 fun hl14 => ?_
  rw [map_len] at hl14
  refine .loopR (γ := Unit) (fun i3 (s4 : api_Wide) z5 => [(11, N (i3 : Int)), (10, N (a0.length : Int)), (9, v00), (4, pt b2 0), (2, pt b1 0)]) (fun (s4 : api_Wide) z5 => [blk b2 30 (api_Wide.cs s4), blk b1 30 (api_Wide.cs ⟨0, 0, 0, 0⟩)]) (fun (s4 : api_Wide) z5 => [rows 4 v00 (a0.map api_Wide.cs)]) () ho8 (.cons Mm.m0 (.cons Mm.m1 (.cons Mm.m2 (.cons Mm.m3 (.cons Mm.m4 .nil))))) (.of (.cons .k0 (.cons .k0 .nil))) (.cons Mm.m0 .nil) (fun i3 s4 z5 hi15 hr11 => ?_)
  refine .seq ?_
  refine .reg rfl ?_
  refine .opp (P.bin (v := Bo (decide ((i3 : Int) < (a0.length : Nat)))) .g0 .g1 .lss) rfl ?_
  refine .nil ?_
  refine .then ?_
  refine .seq ?_
  refine .cond .t0 (fun c16 => ?_) (fun c16 => ?_)
  · obtain ⟨e6, hx13⟩ := get_of c16
    obtain ⟨ct12, hc9, hn10⟩ := loopR_at hx13 hr11
    refine .skip ?_
    refine .then ?_
    refine .seq ?_
    refine .block ?_
    refine .seq ?_
    refine .reg rfl ?_
    refine .ixq Mm.m0 (map_get hx13) fun p17 q18 hq19 => ?_
    refine .opp (P.ixi (i := i3) .g0 rfl .g2 hq19 runUnderlying83 sizeOf30) rfl ?_
    refine .op (V.ldx0 (u := Ag (api_Wide.cs e6)) .t0 hq19 Mm.m0 (map_get hx13) (.agg isAgg30 sizeOf30 rfl rfl)) rfl ?_
    refine .opx (X.alc (cs := (api_Wide.cs ⟨0, 0, 0, 0⟩)) zeroValue30 rfl) rfl fun b20 => ?_
    refine .opg (G.str .t1 .g0 .k0 (.mk (cs' := (api_Wide.cs e6)) sizeOf30 rfl rfl rfl rfl)) rfl fun _ _ => ?_
    refine .nil ?_
    refine .then ?_
    refine .seq ?_
    refine .reg rfl ?_
    refine .op (V.ld (v := Ag (api_Wide.cs s4)) .g4 .k1 (.agg isAgg30 sizeOf30 rfl rfl)) rfl ?_
    refine .op (V.ld (v := Ag (api_Wide.cs e6)) .t1 .k0 (.agg isAgg30 sizeOf30 rfl rfl)) rfl ?_
    refine .opg (G.call call47 (.cons .t1 (.cons .t0 .nil)) (S_wide_Add s4 e6 _ rfl) .nil .nil (fun _ _ => rfl) (fun _ _ => rfl) rfl) rfl fun _ _ => ?_
    refine .opp (P.mov .t0) rfl ?_
    refine .opp (P.ext (v := Ag (api_Wide.cs (wide_Add s4 e6).1)) .g0 rfl) rfl ?_
    refine .opp (P.ext (v := Bo (wide_Add s4 e6).2) .t1 rfl) rfl ?_
    refine .opx (X.alc (cs := (api_Wide.cs ⟨0, 0, 0, 0⟩)) zeroValue30 rfl) rfl fun b21 => ?_
    refine .opg (G.str .t2 .g0 .k0 (.mk (cs' := (api_Wide.cs (wide_Add s4 e6).1)) sizeOf30 rfl rfl rfl rfl)) rfl fun _ _ => ?_
    refine .opp (P.asg .t1) rfl ?_
    refine .nil ?_
    refine .then ?_
    refine .seq ?_
    refine .seq ?_
    refine .reg rfl ?_
    refine .opp (P.mov .t0) rfl ?_
    refine .opp (P.not .t0) rfl ?_
    refine .nil ?_
    refine .then ?_
    refine .cond .t0 (fun c22 => ?_) (fun c22 => ?_)
    · rw [if_pos c22] at hc9
      refine .seq ?_
      refine .reg rfl ?_
      refine .opp (P.bld (v := Ag (api_Wide.cs ⟨0, 0, 0, 0⟩)) .nil (bld_runA zeroValue30 runUnderlying30 sizeOf28 (by kernel_rfl))) rfl ?_
      refine .opg (G.str .t0 .g5 .k3 (.mk (cs' := (api_Wide.cs ⟨0, 0, 0, 0⟩)) sizeOf30 rfl rfl rfl rfl)) rfl fun _ _ => ?_
      refine .opp (P.asg .k) rfl ?_
      refine .nil ?_
      refine .then ?_
      refine .ret ?_
      refine .thr ?_
      refine .inr ?_
      refine .thr ?_
      obtain ⟨x23, hx24, rfl⟩ := map_rt hc9
      obtain rfl := hn10
      obtain rfl := rt_on h
      refine .thr ?_
      refine .inr ?_
      refine .thr ?_
      cases hx24
      exact .finw () (.r2 rfl (.cell .g6 .k0 (.agg isAgg30 sizeOf30 rfl rfl)) (.tmp .g0)) trivial (Ls.of .nil) .nil
    · rw [if_neg (ne_true_of_eq_false c22)] at hc9
      refine .skip ?_
      refine .then ?_
      refine .reg rfl ?_
      refine .op (V.ld (v := Ag (api_Wide.cs (wide_Add s4 e6).1)) .t0 .k0 (.agg isAgg30 sizeOf30 rfl rfl)) rfl ?_
      refine .opg (G.str .t0 .g3 .k2 (.mk (cs' := (api_Wide.cs (wide_Add s4 e6).1)) sizeOf30 rfl rfl rfl rfl)) rfl fun _ _ => ?_
      refine .nil ?_
      refine .inn ?_
      refine .then ?_
      refine .reg rfl ?_
      refine .opp (P.bin .g0 .k (.addc (inc_ok (lt_of_get hx13) hl14))) rfl ?_
      refine .drop .k1 ?_
      refine .opp (P.mov .t0) rfl ?_
      refine .nil ?_
      cases hc9
      exact .rdR ((wide_Add s4 e6).1) () hn10 (lt_of_get hx13) (.cons Mm.m0 (.cons Mm.m1 (.cons Mm.m2 (.cons Mm.m3 (.cons Mm.m4 .nil))))) (.of (.cons .k0 (.cons .k2 .nil))) (.cons Mm.m0 .nil)
  · obtain rfl := loopR_end (le_of_not c16) hr11
    have h := dn_on h
    refine .exit ?_
    refine .thx ?_
    refine .thx ?_
    refine .inb ?_
    refine .then ?_
    refine .seq ?_
    refine .reg rfl ?_
    refine .op (V.ld (v := Ag (api_Wide.cs s4)) .t3 .k0 (.agg isAgg30 sizeOf30 rfl rfl)) rfl ?_
    refine .opg (G.str .t0 .g3 .k1 (.mk (cs' := (api_Wide.cs s4)) sizeOf30 rfl rfl rfl rfl)) rfl fun _ _ => ?_
    refine .opp (P.asg .k) rfl ?_
    refine .nil ?_
    refine .then ?_
    refine .ret ?_
    cases h
    exact .finw () (.r2 rfl (.cell .g4 .k0 (.agg isAgg30 sizeOf30 rfl rfl)) (.tmp .g0)) trivial (Ls.of .nil) .nil
attribute [irreducible] wide_Sum
noncomputable def history_Balance (a0 : List api_Event) (a1 : Int) (a2 : Int) (a3 : Int) : Option (api_Wide × Bool) :=
  thn (if (decide (a2 < 0)) = true then true else (if (decide (a2 ≥ 8)) = true then true else (if (decide (a3 < 0)) = true then true else (decide (a3 ≥ 2))))) fun (y2 : Bool) => if y2 = true then (some (⟨0, 0, 0, 0⟩, false)) else (Option.bind (history_Of a0 a1 a2 a3) fun r11 => Option.bind (loopR (fun (i14 : Nat) (e17 : history_Line) (s15 : (List api_Wide) × (List api_Wide)) => grd ((s15.2.length + ([e17.In] : List api_Wide).length) * 32 ≤ 140737488355328) <| grd ((s15.1.length + ([e17.Out] : List api_Wide).length) * 32 ≤ 140737488355328) <| some (.nx (((s15.1 ++ ([e17.Out] : List api_Wide)), (s15.2 ++ ([e17.In] : List api_Wide)))))) 0 r11 (([], [(wide_Of 1000)]))) fun o18 => Lo.on o18 fun (s15 : (List api_Wide) × (List api_Wide)) => Option.bind (wide_Sum s15.2) fun r38 => Option.bind (wide_Sum s15.1) fun r41 => thn (if (!r38.2) = true then true else (if (!r41.2) = true then true else (!(wide_Sub r38.1 r41.1).2))) fun (y45 : Bool) => if y45 = true then (some (⟨0, 0, 0, 0⟩, false)) else (some (((wide_Sub r38.1 r41.1).1, true))))
set_option maxRecDepth 20000 in
set_option maxHeartbeats 1000000 in
theorem S_history_Balance (v00 : Value) (a0 : List api_Event) (a1 : Int) (a2 : Int) (a3 : Int) (r : api_Wide × Bool) (h : history_Balance a0 a1 a2 a3 = some r) :
    SpecF Tryz.prog 21 [v00, N a1, N a2, N a3] [] [rows 27 v00 (a0.map api_Event.cs)] (fun z : Unit => True) (fun z => Tu [Ag (api_Wide.cs r.1), Bo r.2]) (fun z M =>  M) (fun z M =>  M) := by
  refine .of func21 rfl ntmps21 rfl fun w0 D0 G0 => ?_
  unfold history_Balance at h
  refine .seq ?_
  refine .reg rfl ?_
  refine .opx (X.alc (cs := (api_Wide.cs ⟨0, 0, 0, 0⟩)) zeroValue30 rfl) rfl fun b1 => ?_
  refine .op0 (OpP.toV (P.asg .k)) rfl ?_
  refine .nil ?_
  refine .then ?_
  refine .seq ?_
  obtain ⟨y2, hj4, h⟩ := thn_eq h
  refine .cutx (γ := Unit) (E1 := fun z3 => [(33, Bo y2), (8, pt b1 0), (0, v00), (1, N a1), (2, N a2), (3, N a3)]) (L1 := fun z3 => [blk b1 30 (api_Wide.cs ⟨0, 0, 0, 0⟩)]) (R1 := fun z3 => [rows 27 v00 (a0.map api_Event.cs)]) ?_ (fun z3 => ?_)
  · clear h
    refine .reg rfl ?_
    refine .opp (P.mov .g3) rfl ?_
    refine .opp (P.bin .t0 .k .lss) rfl ?_
    refine .opp (P.mov .t0) rfl ?_
    refine .split .k0 (fun c5 => ?_) (fun c5 => ?_)
    · rw [if_pos c5] at hj4
      refine .gno rfl .g0 rfl rfl ?_
      refine .gno rfl .g0 rfl rfl ?_
      refine .opp (P.pickT .t0 .k) rfl ?_
      refine .opp (P.mov .t0) rfl ?_
      refine .gno rfl .g0 rfl rfl ?_
      refine .gno rfl .g0 rfl rfl ?_
      refine .opp (P.pickT .t0 .k) rfl ?_
      refine .opp (P.mov .t0) rfl ?_
      refine .gno rfl .g0 rfl rfl ?_
      refine .gno rfl .g0 rfl rfl ?_
      refine .opp (P.pickT .t0 .k) rfl ?_
      refine .nil ?_
      subst hj4
      exact .stj () (.cons Mm.m0 (.cons Mm.m1 (.cons Mm.m2 (.cons Mm.m3 (.cons Mm.m4 (.cons Mm.m5 .nil)))))) (.of (.cons .k0 .nil)) (.cons Mm.m0 .nil)
    · rw [if_neg (ne_true_of_eq_false c5)] at hj4
      refine .gyes rfl .g0 ?_
      refine .opp (P.mov .g4) rfl ?_
      refine .gyes rfl .g1 ?_
      refine .opp (P.bin .t0 .k .geq) rfl ?_
      refine .opp (P.pickF .t1 .t0) rfl ?_
      refine .opp (P.mov .t0) rfl ?_
      refine .split .k0 (fun c6 => ?_) (fun c6 => ?_)
      · rw [if_pos c6] at hj4
        refine .gno rfl .g0 rfl rfl ?_
        refine .gno rfl .g0 rfl rfl ?_
        refine .opp (P.pickT .t0 .k) rfl ?_
        refine .opp (P.mov .t0) rfl ?_
        refine .gno rfl .g0 rfl rfl ?_
        refine .gno rfl .g0 rfl rfl ?_
        refine .opp (P.pickT .t0 .k) rfl ?_
        refine .nil ?_
        subst hj4
        exact .stj () (.cons Mm.m0 (.cons Mm.m1 (.cons Mm.m2 (.cons Mm.m3 (.cons Mm.m4 (.cons Mm.m5 .nil)))))) (.of (.cons .k0 .nil)) (.cons Mm.m0 .nil)
      · rw [if_neg (ne_true_of_eq_false c6)] at hj4
        refine .gyes rfl .g0 ?_
        refine .opp (P.mov .g5) rfl ?_
        refine .gyes rfl .g1 ?_
        refine .opp (P.bin .t0 .k .lss) rfl ?_
        refine .opp (P.pickF .t1 .t0) rfl ?_
        refine .opp (P.mov .t0) rfl ?_
        refine .split .k0 (fun c7 => ?_) (fun c7 => ?_)
        · rw [if_pos c7] at hj4
          refine .gno rfl .g0 rfl rfl ?_
          refine .gno rfl .g0 rfl rfl ?_
          refine .opp (P.pickT .t0 .k) rfl ?_
          refine .nil ?_
          subst hj4
          exact .stj () (.cons Mm.m0 (.cons Mm.m1 (.cons Mm.m2 (.cons Mm.m3 (.cons Mm.m4 (.cons Mm.m5 .nil)))))) (.of (.cons .k0 .nil)) (.cons Mm.m0 .nil)
        · rw [if_neg (ne_true_of_eq_false c7)] at hj4
          refine .gyes rfl .g0 ?_
          refine .opp (P.mov .g5) rfl ?_
          refine .gyes rfl .g1 ?_
          refine .opp (P.bin .t0 .k .geq) rfl ?_
          refine .opp (P.pickF .t1 .t0) rfl ?_
          refine .nil ?_
          subst hj4
          exact .stj () (.cons Mm.m0 (.cons Mm.m1 (.cons Mm.m2 (.cons Mm.m3 (.cons Mm.m4 (.cons Mm.m5 .nil)))))) (.of (.cons .k0 .nil)) (.cons Mm.m0 .nil)
  · clear hj4
    refine .cond .t0 (fun c8 => ?_) (fun c8 => ?_)
    · rw [if_pos c8] at h
      refine .seq ?_
      refine .reg rfl ?_
      refine .opp (P.bld (v := Ag (api_Wide.cs ⟨0, 0, 0, 0⟩)) .nil (bld_runA zeroValue30 runUnderlying30 sizeOf28 (by kernel_rfl))) rfl ?_
      refine .opg (G.str .t0 .g0 .k0 (.mk (cs' := (api_Wide.cs ⟨0, 0, 0, 0⟩)) sizeOf30 rfl rfl rfl rfl)) rfl fun _ _ => ?_
      refine .opp (P.asg .k) rfl ?_
      refine .nil ?_
      refine .then ?_
      refine .ret ?_
      refine .thr ?_
      cases h
      exact .finw () (.r2 rfl (.cell .g1 .k0 (.agg isAgg30 sizeOf30 rfl rfl)) (.tmp .g0)) trivial (Ls.of .nil) .nil
    · rw [if_neg (ne_true_of_eq_false c8)] at h
      refine .skip ?_
      refine .then ?_
      refine .seq ?_
      refine .reg rfl ?_
      refine .opg (G.call call36 (.cons .k .nil) (S_wide_Of 1000 _ rfl) .nil .nil (fun _ _ => rfl) (fun _ _ => rfl) rfl) rfl fun _ _ => ?_
      refine .opg (G.bsl (cs := (api_Wide.cs (wide_Of 1000))) .t0 runUnderlying83 sizeOf30 zeroValue30 rfl rfl rfl rfl rfl) rfl fun u9 _ => ?_
      refine .opg (G.bsl0 runUnderlying83 sizeOf30 rfl) rfl fun u10 _ => ?_
      refine .opp (P.asg .t1) rfl ?_
      refine .opp (P.asg .t1) rfl ?_
      refine .nil ?_
      refine .then ?_
      refine .seq ?_
      refine .seq ?_
      refine .reg rfl ?_
      refine .opp (P.mov .t3) rfl ?_
      refine .opp (P.mov .t4) rfl ?_
      refine .opp (P.mov .t5) rfl ?_
      refine .opp (P.mov .t6) rfl ?_
      obtain ⟨r11, hr12, h⟩ := bnd_eq h
      refine .opg (G.call call37 (.cons .t3 (.cons .t2 (.cons .t1 (.cons .t0 .nil)))) (S_history_Of v00 a0 a1 a2 a3 r11 hr12) .nil (.cons Mm.m0 .nil) (fun _ _ => rfl) (fun _ _ => rfl) rfl) rfl fun u13 _ => ?_
      refine .op (V.lnl (n := r11.length) .g0 .k0 map_len runUnderlying84) rfl ?_
      refine .opp (P.mov .k) rfl ?_
      refine .nil ?_
      refine .then ?_
      refine .block ?_
      refine .frz .k0 ?_
      obtain ⟨o18, ho19, h⟩ := bnd_eq h
      refine .lenq Mm.m0 fun hl25 => ?_
      rw [map_len] at hl25
      refine .loopR (γ := Value × Value) (fun i14 (s15 : (List api_Wide) × (List api_Wide)) z16 => [(44, N (i14 : Int)), (43, N (r11.length : Int)), (42, u13), (11, z16.1), (10, z16.2), (8, pt b1 0)]) (fun (s15 : (List api_Wide) × (List api_Wide)) z16 => [blk b1 30 (api_Wide.cs ⟨0, 0, 0, 0⟩), lst 30 4 z16.1 (s15.1.map api_Wide.cs), lst 30 4 z16.2 (s15.2.map api_Wide.cs)]) (fun (s15 : (List api_Wide) × (List api_Wide)) z16 => [rows 10 u13 (r11.map history_Line.cs), rows 27 v00 (a0.map api_Event.cs)]) ⟨u10, u9⟩ ho19 (.cons Mm.m0 (.cons Mm.m1 (.cons Mm.m2 (.cons Mm.m3 (.cons Mm.m4 (.cons Mm.m5 .nil)))))) (.of (.cons .k2 (.cons .k0 (.cons .k0 .nil)))) (.cons Mm.m0 (.cons Mm.m1 .nil)) (fun i14 s15 z16 hi26 hr22 => ?_)
      refine .seq ?_
      refine .reg rfl ?_
      refine .opp (P.bin (v := Bo (decide ((i14 : Int) < (r11.length : Nat)))) .g0 .g1 .lss) rfl ?_
      refine .nil ?_
      refine .then ?_
      refine .seq ?_
      refine .cond .t0 (fun c27 => ?_) (fun c27 => ?_)
      · obtain ⟨e17, hx24⟩ := get_of c27
        obtain ⟨ct23, hc20, hn21⟩ := loopR_at hx24 hr22
        refine .skip ?_
        refine .then ?_
        refine .seq ?_
        refine .block ?_
        refine .seq ?_
        refine .reg rfl ?_
        refine .ixq Mm.m0 (map_get hx24) fun p28 q29 hq30 => ?_
        refine .opp (P.ixi (i := i14) .g0 rfl .g2 hq30 runUnderlying84 sizeOf87) rfl ?_
        refine .op (V.ldx0 (u := Ag (history_Line.cs e17)) .t0 hq30 Mm.m0 (map_get hx24) (.agg isAgg87 sizeOf87 rfl rfl)) rfl ?_
        refine .opx (X.alc (cs := (history_Line.cs ⟨0, 0, ⟨0, 0, 0, 0⟩, ⟨0, 0, 0, 0⟩⟩)) zeroValue87 rfl) rfl fun b31 => ?_
        refine .opg (G.str .t1 .g0 .k0 (.mk (cs' := (history_Line.cs e17)) sizeOf87 rfl rfl rfl rfl)) rfl fun _ _ => ?_
        refine .nil ?_
        refine .then ?_
        obtain ⟨hb34, hc20⟩ := grd_eq hc20
        obtain ⟨hb37, hc20⟩ := grd_eq hc20
        refine .dcut (γ := Value × Value × Value × Value) (φ := fun _ => True) (E1 := fun x_ => [(11, x_.2.2.2), (10, x_.2.1), (44, N (i14 : Int)), (43, N (r11.length : Int)), (42, u13), (8, pt b1 0)]) (L1 := fun x_ => [lst 30 4 x_.2.2.2 ((s15.1 ++ ([e17.Out] : List api_Wide)).map api_Wide.cs), lst 30 4 x_.2.2.1 [(api_Wide.cs e17.Out)], lst 30 4 x_.2.1 ((s15.2 ++ ([e17.In] : List api_Wide)).map api_Wide.cs), lst 30 4 x_.1 [(api_Wide.cs e17.In)], blk b31 87 (history_Line.cs e17), blk b1 30 (api_Wide.cs ⟨0, 0, 0, 0⟩)]) (R1 := fun x_ => [rows 10 u13 (r11.map history_Line.cs), rows 27 v00 (a0.map api_Event.cs)]) ?_ (fun x_ _ => ?_)
        · refine .drawl [blk b31 87 (history_Line.cs e17), blk b1 30 (api_Wide.cs ⟨0, 0, 0, 0⟩)] [rows 10 u13 (r11.map history_Line.cs), rows 27 v00 (a0.map api_Event.cs)] (Ls.of (.cons .k0 (.cons .k0 .nil))) (Rs.cons Mm.m0 (Rs.cons Mm.m1 Rs.nil)) 12 (.on 0 .pu (.on 1 .pu (.on 5 .pu (.on 6 .pu (.on 2 .ld (.on 7 .ld (.fk 3 8 (.fk 4 8 (.on 8 .go (.on 9 .go (.on 10 .go (.on 11 .go .nl)))) (.on 4 .go (.on 9 .go (.on 10 .go (.on 11 .go .nl))))) (.on 3 .go (.on 4 .go (.on 9 .go (.on 10 .go (.on 11 .go .nl)))))))))))) follows_mixed (.thn (.inb (.thn (.thn (.inb (.thn .body)))))) (by kernel_rfl) ?_
          refine .dpu rfl (.n rfl) (P.mov .g5) rfl rfl ?_
          refine .dpu rfl (.n rfl) (P.fa .g1 fa_87_2 rfl) rfl rfl ?_
          refine .dpu rfl (.n rfl) (P.mov .g6) rfl rfl ?_
          refine .dpu rfl (.n rfl) (P.fa .t3 fa_87_3 rfl) rfl rfl ?_
          refine .dld rfl (.n rfl) (V.ld (v := Ag (api_Wide.cs e17.In)) .t2 .k0 (.agg isAgg30 sizeOf30 rfl rfl)) (fun _ h => (h.imp (Ls.of (.cons .k0 (.cons .k0 .nil)))).ro (Rs.cons Mm.m0 (Rs.cons Mm.m1 Rs.nil))) rfl rfl ?_
          refine .dld rfl (.n rfl) (V.ld (v := Ag (api_Wide.cs e17.Out)) .t1 .k0 (.agg isAgg30 sizeOf30 rfl rfl)) (fun _ h => (h.imp (Ls.of (.cons .k0 (.cons .k0 .nil)))).ro (Rs.cons Mm.m0 (Rs.cons Mm.m1 Rs.nil))) rfl rfl ?_
          refine .dfk ?_ ?_
          · refine .dgo rfl (.n rfl) (G.bsl (cs := (api_Wide.cs e17.In)) .t1 runUnderlying83 sizeOf30 zeroValue30 rfl rfl rfl rfl rfl) (.inr fun _ _ _ h => (h.imp (Ls.of (.cons .k1 (.cons .k1 .nil)))).ro (Rs.cons Mm.m0 (Rs.cons Mm.m1 Rs.nil))) fun u32 _ => ?_
            refine .dfk ?_ ?_
            · refine .dgo rfl (.n rfl) (G.app (by_ := 32) .t3 .t0 .k4 (.inr (.inr ⟨_, Mm.m0⟩)) runUnderlying83 runUnderlying83 sizeOf30 typeInfo30 rfl rfl zeroValue30 rfl rfl (by simpa using hb34) rfl) (.inr fun _ _ _ h => (h.imp (Ls.of (.cons .k2 (.cons .k2 .nil)))).ro (Rs.cons Mm.m0 (Rs.cons Mm.m1 Rs.nil))) fun u33 _ => ?_
              refine .conseq .k0 (q := lst 30 4 u33 ((s15.2 ++ ([e17.In] : List api_Wide)).map api_Wide.cs)) (fun _ hh => by simpa [List.map_append] using hh) ?_
              refine .dgo rfl (.n rfl) (G.bsl (cs := (api_Wide.cs e17.Out)) .t1 runUnderlying83 sizeOf30 zeroValue30 rfl rfl rfl rfl rfl) (.inr fun _ _ _ h => (h.imp (Ls.of (.cons .k3 (.cons .k3 .nil)))).ro (Rs.cons Mm.m0 (Rs.cons Mm.m1 Rs.nil))) fun u35 _ => ?_
              refine .dgo rfl (.n rfl) (G.app (by_ := 32) .t2 .t0 .k5 (.inr (.inr ⟨_, Mm.m0⟩)) runUnderlying83 runUnderlying83 sizeOf30 typeInfo30 rfl rfl zeroValue30 rfl rfl (by simpa using hb37) rfl) (.inr fun _ _ _ h => (h.imp (Ls.of (.cons .k4 (.cons .k4 .nil)))).ro (Rs.cons Mm.m0 (Rs.cons Mm.m1 Rs.nil))) fun u36 _ => ?_
              refine .conseq .k0 (q := lst 30 4 u36 ((s15.1 ++ ([e17.Out] : List api_Wide)).map api_Wide.cs)) (fun _ hh => by simpa [List.map_append] using hh) ?_
              refine .drop .k6 ?_
              refine .dgo rfl (.n rfl) (OpV.g (OpP.toV (P.asg .t1)) rfl) (.inr fun _ _ _ h => (h.imp (Ls.of (.cons .k4 (.cons .k4 .nil)))).ro (Rs.cons Mm.m0 (Rs.cons Mm.m1 Rs.nil))) fun _ _ => ?_
              refine .drop .k5 ?_
              refine .dgo rfl (.n rfl) (OpV.g (OpP.toV (P.asg .t1)) rfl) (.inr fun _ _ _ h => (h.imp (Ls.of (.cons .k4 (.cons .k4 .nil)))).ro (Rs.cons Mm.m0 (Rs.cons Mm.m1 Rs.nil))) fun _ _ => ?_
              refine .dnil ?_
              exact .dst ⟨u32, u33, u35, u36⟩ trivial (.cons Mm.m0 (.cons Mm.m1 (.cons Mm.m2 (.cons Mm.m3 (.cons Mm.m4 (.cons Mm.m5 .nil)))))) (Ls.of (.cons .k0 (.cons .k0 (.cons .k0 (.cons .k0 (.cons .k0 (.cons .k0 .nil))))))) (.cons Mm.m0 (.cons Mm.m1 .nil))
            · refine .dgo rfl (.n rfl) (G.bsl (cs := (api_Wide.cs e17.Out)) .t1 runUnderlying83 sizeOf30 zeroValue30 rfl rfl rfl rfl rfl) (.inr fun _ _ _ h => (h.imp (Ls.of (.cons .k2 (.cons .k2 .nil)))).ro (Rs.cons Mm.m0 (Rs.cons Mm.m1 Rs.nil))) fun u35 _ => ?_
              refine .dgo rfl (.n rfl) (G.app (by_ := 32) .t3 .t1 .k5 (.inr (.inr ⟨_, Mm.m1⟩)) runUnderlying83 runUnderlying83 sizeOf30 typeInfo30 rfl rfl zeroValue30 rfl rfl (by simpa using hb34) rfl) (.inr fun _ _ _ h => (h.imp (Ls.of (.cons .k3 (.cons .k3 .nil)))).ro (Rs.cons Mm.m0 (Rs.cons Mm.m1 Rs.nil))) fun u33 _ => ?_
              refine .conseq .k0 (q := lst 30 4 u33 ((s15.2 ++ ([e17.In] : List api_Wide)).map api_Wide.cs)) (fun _ hh => by simpa [List.map_append] using hh) ?_
              refine .dgo rfl (.n rfl) (G.app (by_ := 32) .t2 .t1 .k5 (.inr (.inr ⟨_, Mm.m1⟩)) runUnderlying83 runUnderlying83 sizeOf30 typeInfo30 rfl rfl zeroValue30 rfl rfl (by simpa using hb37) rfl) (.inr fun _ _ _ h => (h.imp (Ls.of (.cons .k4 (.cons .k4 .nil)))).ro (Rs.cons Mm.m0 (Rs.cons Mm.m1 Rs.nil))) fun u36 _ => ?_
              refine .conseq .k0 (q := lst 30 4 u36 ((s15.1 ++ ([e17.Out] : List api_Wide)).map api_Wide.cs)) (fun _ hh => by simpa [List.map_append] using hh) ?_
              refine .drop .k6 ?_
              refine .dgo rfl (.n rfl) (OpV.g (OpP.toV (P.asg .t1)) rfl) (.inr fun _ _ _ h => (h.imp (Ls.of (.cons .k4 (.cons .k4 .nil)))).ro (Rs.cons Mm.m0 (Rs.cons Mm.m1 Rs.nil))) fun _ _ => ?_
              refine .drop .k5 ?_
              refine .dgo rfl (.n rfl) (OpV.g (OpP.toV (P.asg .t1)) rfl) (.inr fun _ _ _ h => (h.imp (Ls.of (.cons .k4 (.cons .k4 .nil)))).ro (Rs.cons Mm.m0 (Rs.cons Mm.m1 Rs.nil))) fun _ _ => ?_
              refine .dnil ?_
              exact .dst ⟨u32, u33, u35, u36⟩ trivial (.cons Mm.m0 (.cons Mm.m1 (.cons Mm.m2 (.cons Mm.m3 (.cons Mm.m4 (.cons Mm.m5 .nil)))))) (Ls.of (.cons .k0 (.cons .k1 (.cons .k0 (.cons .k0 (.cons .k0 (.cons .k0 .nil))))))) (.cons Mm.m0 (.cons Mm.m1 .nil))
          · refine .dgo rfl (.n rfl) (G.bsl (cs := (api_Wide.cs e17.Out)) .t0 runUnderlying83 sizeOf30 zeroValue30 rfl rfl rfl rfl rfl) (.inr fun _ _ _ h => (h.imp (Ls.of (.cons .k1 (.cons .k1 .nil)))).ro (Rs.cons Mm.m0 (Rs.cons Mm.m1 Rs.nil))) fun u35 _ => ?_
            refine .dgo rfl (.n rfl) (G.bsl (cs := (api_Wide.cs e17.In)) .t1 runUnderlying83 sizeOf30 zeroValue30 rfl rfl rfl rfl rfl) (.inr fun _ _ _ h => (h.imp (Ls.of (.cons .k2 (.cons .k2 .nil)))).ro (Rs.cons Mm.m0 (Rs.cons Mm.m1 Rs.nil))) fun u32 _ => ?_
            refine .dgo rfl (.n rfl) (G.app (by_ := 32) .t3 .t0 .k5 (.inr (.inr ⟨_, Mm.m0⟩)) runUnderlying83 runUnderlying83 sizeOf30 typeInfo30 rfl rfl zeroValue30 rfl rfl (by simpa using hb34) rfl) (.inr fun _ _ _ h => (h.imp (Ls.of (.cons .k3 (.cons .k3 .nil)))).ro (Rs.cons Mm.m0 (Rs.cons Mm.m1 Rs.nil))) fun u33 _ => ?_
            refine .conseq .k0 (q := lst 30 4 u33 ((s15.2 ++ ([e17.In] : List api_Wide)).map api_Wide.cs)) (fun _ hh => by simpa [List.map_append] using hh) ?_
            refine .dgo rfl (.n rfl) (G.app (by_ := 32) .t2 .t1 .k5 (.inr (.inr ⟨_, Mm.m2⟩)) runUnderlying83 runUnderlying83 sizeOf30 typeInfo30 rfl rfl zeroValue30 rfl rfl (by simpa using hb37) rfl) (.inr fun _ _ _ h => (h.imp (Ls.of (.cons .k4 (.cons .k4 .nil)))).ro (Rs.cons Mm.m0 (Rs.cons Mm.m1 Rs.nil))) fun u36 _ => ?_
            refine .conseq .k0 (q := lst 30 4 u36 ((s15.1 ++ ([e17.Out] : List api_Wide)).map api_Wide.cs)) (fun _ hh => by simpa [List.map_append] using hh) ?_
            refine .drop .k6 ?_
            refine .dgo rfl (.n rfl) (OpV.g (OpP.toV (P.asg .t1)) rfl) (.inr fun _ _ _ h => (h.imp (Ls.of (.cons .k4 (.cons .k4 .nil)))).ro (Rs.cons Mm.m0 (Rs.cons Mm.m1 Rs.nil))) fun _ _ => ?_
            refine .drop .k5 ?_
            refine .dgo rfl (.n rfl) (OpV.g (OpP.toV (P.asg .t1)) rfl) (.inr fun _ _ _ h => (h.imp (Ls.of (.cons .k4 (.cons .k4 .nil)))).ro (Rs.cons Mm.m0 (Rs.cons Mm.m1 Rs.nil))) fun _ _ => ?_
            refine .dnil ?_
            exact .dst ⟨u32, u33, u35, u36⟩ trivial (.cons Mm.m0 (.cons Mm.m1 (.cons Mm.m2 (.cons Mm.m3 (.cons Mm.m4 (.cons Mm.m5 .nil)))))) (Ls.of (.cons .k0 (.cons .k2 (.cons .k0 (.cons .k0 (.cons .k0 (.cons .k0 .nil))))))) (.cons Mm.m0 (.cons Mm.m1 .nil))
        · obtain ⟨u32, u33, u35, u36⟩ := x_
          refine .inn ?_
          refine .then ?_
          refine .reg rfl ?_
          refine .opp (P.bin .g2 .k (.addc (inc_ok (lt_of_get hx24) hl25))) rfl ?_
          refine .drop .k3 ?_
          refine .opp (P.mov .t0) rfl ?_
          refine .nil ?_
          cases hc20
          exact .rdR (((s15.1 ++ ([e17.Out] : List api_Wide)), (s15.2 ++ ([e17.In] : List api_Wide)))) ⟨u36, u33⟩ hn21 (lt_of_get hx24) (.cons Mm.m0 (.cons Mm.m3 (.cons Mm.m4 (.cons Mm.m1 (.cons Mm.m2 (.cons Mm.m5 .nil)))))) (.of (.cons .k5 (.cons .k0 (.cons .k1 .nil)))) (.cons Mm.m0 (.cons Mm.m1 .nil))
      · obtain rfl := loopR_end (le_of_not c27) hr22
        have h := dn_on h
        refine .exit ?_
        refine .thx ?_
        refine .thx ?_
        refine .inb ?_
        refine .then ?_
        refine .seq ?_
        refine .reg rfl ?_
        refine .opp (P.mov .t4) rfl ?_
        refine .frz .k2 ?_
        obtain ⟨r38, hr39, h⟩ := bnd_eq h
        refine .opg (G.call call38 (.cons .t0 .nil) (S_wide_Sum z16.2 s15.2 r38 hr39) .nil (.cons Mm.m0 .nil) (fun _ _ => rfl) (fun _ _ => rfl) rfl) rfl fun _ _ => ?_
        refine .opp (P.mov .t0) rfl ?_
        refine .opp (P.ext (v := Ag (api_Wide.cs r38.1)) .g0 rfl) rfl ?_
        refine .opp (P.ext (v := Bo r38.2) .t1 rfl) rfl ?_
        refine .opx (X.alc (cs := (api_Wide.cs ⟨0, 0, 0, 0⟩)) zeroValue30 rfl) rfl fun b40 => ?_
        refine .opg (G.str .t2 .g0 .k0 (.mk (cs' := (api_Wide.cs r38.1)) sizeOf30 rfl rfl rfl rfl)) rfl fun _ _ => ?_
        refine .opp (P.asg .t1) rfl ?_
        refine .nil ?_
        refine .then ?_
        refine .seq ?_
        refine .reg rfl ?_
        refine .opp (P.mov .t5) rfl ?_
        refine .frz .k2 ?_
        obtain ⟨r41, hr42, h⟩ := bnd_eq h
        refine .opg (G.call call38 (.cons .t0 .nil) (S_wide_Sum z16.1 s15.1 r41 hr42) .nil (.cons Mm.m0 .nil) (fun _ _ => rfl) (fun _ _ => rfl) rfl) rfl fun _ _ => ?_
        refine .opp (P.mov .t0) rfl ?_
        refine .opp (P.ext (v := Ag (api_Wide.cs r41.1)) .g0 rfl) rfl ?_
        refine .opp (P.ext (v := Bo r41.2) .t1 rfl) rfl ?_
        refine .opx (X.alc (cs := (api_Wide.cs ⟨0, 0, 0, 0⟩)) zeroValue30 rfl) rfl fun b43 => ?_
        refine .opg (G.str .t2 .g0 .k0 (.mk (cs' := (api_Wide.cs r41.1)) sizeOf30 rfl rfl rfl rfl)) rfl fun _ _ => ?_
        refine .opp (P.asg .t1) rfl ?_
        refine .nil ?_
        refine .then ?_
        refine .seq ?_
        refine .reg rfl ?_
        refine .op (V.ld (v := Ag (api_Wide.cs r38.1)) .t3 .k1 (.agg isAgg30 sizeOf30 rfl rfl)) rfl ?_
        refine .op (V.ld (v := Ag (api_Wide.cs r41.1)) .t2 .k0 (.agg isAgg30 sizeOf30 rfl rfl)) rfl ?_
        refine .opg (G.call call39 (.cons .t1 (.cons .t0 .nil)) (S_wide_Sub r38.1 r41.1 _ rfl) .nil .nil (fun _ _ => rfl) (fun _ _ => rfl) rfl) rfl fun _ _ => ?_
        refine .opp (P.mov .t0) rfl ?_
        refine .opp (P.ext (v := Ag (api_Wide.cs (wide_Sub r38.1 r41.1).1)) .g0 rfl) rfl ?_
        refine .opp (P.ext (v := Bo (wide_Sub r38.1 r41.1).2) .t1 rfl) rfl ?_
        refine .opx (X.alc (cs := (api_Wide.cs ⟨0, 0, 0, 0⟩)) zeroValue30 rfl) rfl fun b44 => ?_
        refine .opg (G.str .t2 .g0 .k0 (.mk (cs' := (api_Wide.cs (wide_Sub r38.1 r41.1).1)) sizeOf30 rfl rfl rfl rfl)) rfl fun _ _ => ?_
        refine .opp (P.asg .t1) rfl ?_
        refine .nil ?_
        refine .then ?_
        refine .seq ?_
        obtain ⟨y45, hj47, h⟩ := thn_eq h
        refine .cutx (γ := Unit) (E1 := fun z46 => [(84, Bo y45), (18, pt b44 0), (8, pt b1 0)]) (L1 := fun z46 => [blk b44 30 (api_Wide.cs (wide_Sub r38.1 r41.1).1), blk b1 30 (api_Wide.cs ⟨0, 0, 0, 0⟩)]) (R1 := fun z46 => [rows 27 v00 (a0.map api_Event.cs)]) ?_ (fun z46 => ?_)
        · clear h
          refine .reg rfl ?_
          refine .opp (P.mov .t3) rfl ?_
          refine .opp (P.not .t0) rfl ?_
          refine .opp (P.mov .t0) rfl ?_
          refine .split .k0 (fun c48 => ?_) (fun c48 => ?_)
          · rw [if_pos c48] at hj47
            refine .gno rfl .g0 rfl rfl ?_
            refine .gno rfl .g0 rfl rfl ?_
            refine .opp (P.pickT .t0 .k) rfl ?_
            refine .opp (P.mov .t0) rfl ?_
            refine .gno rfl .g0 rfl rfl ?_
            refine .gno rfl .g0 rfl rfl ?_
            refine .opp (P.pickT .t0 .k) rfl ?_
            refine .nil ?_
            subst hj47
            exact .stj () (.cons Mm.m0 (.cons Mm.m2 (.cons Mm.m7 .nil))) (.of (.cons .k0 (.cons .k2 .nil))) (.cons Mm.m3 .nil)
          · rw [if_neg (ne_true_of_eq_false c48)] at hj47
            refine .gyes rfl .g0 ?_
            refine .opp (P.mov .t3) rfl ?_
            refine .gyes rfl .g1 ?_
            refine .opp (P.not .t0) rfl ?_
            refine .opp (P.pickF .t1 .t0) rfl ?_
            refine .opp (P.mov .t0) rfl ?_
            refine .split .k0 (fun c49 => ?_) (fun c49 => ?_)
            · rw [if_pos c49] at hj47
              refine .gno rfl .g0 rfl rfl ?_
              refine .gno rfl .g0 rfl rfl ?_
              refine .opp (P.pickT .t0 .k) rfl ?_
              refine .nil ?_
              subst hj47
              exact .stj () (.cons Mm.m0 (.cons Mm.m2 (.cons Mm.m6 .nil))) (.of (.cons .k0 (.cons .k2 .nil))) (.cons Mm.m3 .nil)
            · rw [if_neg (ne_true_of_eq_false c49)] at hj47
              refine .gyes rfl .g0 ?_
              refine .opp (P.mov .t1) rfl ?_
              refine .gyes rfl .g1 ?_
              refine .opp (P.not .t0) rfl ?_
              refine .opp (P.pickF .t1 .t0) rfl ?_
              refine .nil ?_
              subst hj47
              exact .stj () (.cons Mm.m0 (.cons Mm.m1 (.cons Mm.m5 .nil))) (.of (.cons .k0 (.cons .k2 .nil))) (.cons Mm.m3 .nil)
        · clear hj47
          refine .cond .t0 (fun c50 => ?_) (fun c50 => ?_)
          · rw [if_pos c50] at h
            refine .seq ?_
            refine .reg rfl ?_
            refine .opp (P.bld (v := Ag (api_Wide.cs ⟨0, 0, 0, 0⟩)) .nil (bld_runA zeroValue30 runUnderlying30 sizeOf28 (by kernel_rfl))) rfl ?_
            refine .opg (G.str .t0 .g1 .k1 (.mk (cs' := (api_Wide.cs ⟨0, 0, 0, 0⟩)) sizeOf30 rfl rfl rfl rfl)) rfl fun _ _ => ?_
            refine .opp (P.asg .k) rfl ?_
            refine .nil ?_
            refine .then ?_
            refine .ret ?_
            refine .thr ?_
            cases h
            exact .finw () (.r2 rfl (.cell .g2 .k0 (.agg isAgg30 sizeOf30 rfl rfl)) (.tmp .g0)) trivial (Ls.of .nil) .nil
          · rw [if_neg (ne_true_of_eq_false c50)] at h
            refine .skip ?_
            refine .then ?_
            refine .seq ?_
            refine .reg rfl ?_
            refine .op (V.ld (v := Ag (api_Wide.cs (wide_Sub r38.1 r41.1).1)) .t0 .k0 (.agg isAgg30 sizeOf30 rfl rfl)) rfl ?_
            refine .opg (G.str .t0 .g0 .k1 (.mk (cs' := (api_Wide.cs (wide_Sub r38.1 r41.1).1)) sizeOf30 rfl rfl rfl rfl)) rfl fun _ _ => ?_
            refine .opp (P.asg .k) rfl ?_
            refine .nil ?_
            refine .then ?_
            refine .ret ?_
            cases h
            exact .finw () (.r2 rfl (.cell .g1 .k0 (.agg isAgg30 sizeOf30 rfl rfl)) (.tmp .g0)) trivial (Ls.of .nil) .nil
attribute [irreducible] history_Balance
noncomputable def narrowslaw31_alive  : Option (Bool) :=
  Option.bind (history_Balance ([] : List api_Event) 0 3 1) fun r1 => thn (if r1.2 = true then (decide ((r1.1 : api_Wide) = (⟨1000, 0, 0, 0⟩ : api_Wide))) else false) fun (y4 : Bool) => some y4
set_option maxRecDepth 20000 in
set_option maxHeartbeats 1000000 in
theorem S_narrowslaw31_alive  (r : Bool) (h : narrowslaw31_alive  = some r) :
    SpecF Tryz.prog 20 [] [] [] (fun z : Unit => True) (fun z => Bo r) (fun z M =>  M) (fun z M =>  M) := by
  refine .of func20 rfl ntmps20 rfl fun w0 D0 G0 => ?_
  unfold narrowslaw31_alive at h
  refine .seq ?_
  refine .reg rfl ?_
  refine .op0 (OpP.toV (P.asg .k)) rfl ?_
  refine .nil ?_
  refine .then ?_
  refine .seq ?_
  refine .reg rfl ?_
  refine .rnil0 27 ?_
  obtain ⟨r1, hr2, h⟩ := bnd_eq h
  refine .opg (G.call call21 (.cons .k (.cons .k (.cons .k (.cons .k .nil)))) (S_history_Balance nilSl ([] : List api_Event) 0 3 1 r1 hr2) .nil (.cons Mm.m0 .nil) (fun _ _ => rfl) (fun _ _ => rfl) rfl) rfl fun _ _ => ?_
  refine .opp (P.mov .t0) rfl ?_
  refine .opp (P.ext (v := Ag (api_Wide.cs r1.1)) .g0 rfl) rfl ?_
  refine .opp (P.ext (v := Bo r1.2) .t1 rfl) rfl ?_
  refine .opx (X.alc (cs := (api_Wide.cs ⟨0, 0, 0, 0⟩)) zeroValue30 rfl) rfl fun b3 => ?_
  refine .opg (G.str .t2 .g0 .k0 (.mk (cs' := (api_Wide.cs r1.1)) sizeOf30 rfl rfl rfl rfl)) rfl fun _ _ => ?_
  refine .opp (P.asg .t1) rfl ?_
  refine .nil ?_
  refine .then ?_
  obtain ⟨y4, hj6, h⟩ := thn_eq h
  refine .cutx (γ := Unit) (E1 := fun z5 => [(0, Bo y4)]) (L1 := fun z5 => []) (R1 := fun z5 => []) ?_ (fun z5 => ?_)
  · clear h
    refine .reg rfl ?_
    refine .opp (P.mov .t0) rfl ?_
    refine .opp (P.mov .t0) rfl ?_
    refine .split .k0 (fun c7 => ?_) (fun c7 => ?_)
    · rw [if_pos c7] at hj6
      refine .gyes rfl .g0 ?_
      refine .op (V.ld (v := Ag (api_Wide.cs r1.1)) .t1 .k0 (.agg isAgg30 sizeOf30 rfl rfl)) rfl ?_
      refine .gyes rfl .g1 ?_
      refine .opp (P.bld (v := Ag (api_Wide.cs ⟨1000, 0, 0, 0⟩)) (.cons .k .nil) (bld_runA zeroValue30 runUnderlying30 sizeOf28 (by kernel_rfl))) rfl ?_
      refine .gyes rfl .g2 ?_
      refine .opp (P.bin .t1 .t0 (eq_30_eql _ _)) rfl ?_
      refine .opp (P.pickT .t1 .t0) rfl ?_
      refine .opp (P.asg .t0) rfl ?_
      refine .nil ?_
      subst hj6
      exact .stj () (.cons Mm.m0 .nil) (.of .nil) .nil
    · rw [if_neg (ne_true_of_eq_false c7)] at hj6
      refine .gno rfl .g0 rfl rfl ?_
      refine .gno rfl .g0 rfl rfl ?_
      refine .gno rfl .g0 rfl rfl ?_
      refine .opp (P.pickF .t0 .k) rfl ?_
      refine .opp (P.asg .t0) rfl ?_
      refine .nil ?_
      subst hj6
      exact .stj () (.cons Mm.m0 .nil) (.of .nil) .nil
  · clear hj6
    refine .ret ?_
    cases h
    exact .finw () (.r1 rfl (.tmp .g0)) trivial (Ls.of .nil) .nil
attribute [irreducible] narrowslaw31_alive
noncomputable def purse_Even (a0 : UInt64) : purse_Book :=
  ⟨⟨(wide_Of a0), (wide_Of a0)⟩, ⟨(wide_Of a0), (wide_Of a0)⟩, ⟨(wide_Of a0), (wide_Of a0)⟩, ⟨(wide_Of a0), (wide_Of a0)⟩, ⟨(wide_Of a0), (wide_Of a0)⟩, ⟨(wide_Of a0), (wide_Of a0)⟩, ⟨(wide_Of a0), (wide_Of a0)⟩, ⟨(wide_Of a0), (wide_Of a0)⟩⟩
set_option maxRecDepth 20000 in
set_option maxHeartbeats 1000000 in
theorem S_purse_Even (a0 : UInt64) (r : purse_Book) (h : purse_Even a0 = r) :
    SpecF Tryz.prog 41 [U a0] [] [] (fun z : Unit => True) (fun z => Ag (purse_Book.cs r)) (fun z M =>  M) (fun z M =>  M) := by
  refine .of func41 rfl ntmps41 rfl fun w0 D0 G0 => ?_
  unfold purse_Even at h
  refine .seq ?_
  refine .reg rfl ?_
  refine .opx (X.alc (cs := (purse_Book.cs ⟨⟨⟨0, 0, 0, 0⟩, ⟨0, 0, 0, 0⟩⟩, ⟨⟨0, 0, 0, 0⟩, ⟨0, 0, 0, 0⟩⟩, ⟨⟨0, 0, 0, 0⟩, ⟨0, 0, 0, 0⟩⟩, ⟨⟨0, 0, 0, 0⟩, ⟨0, 0, 0, 0⟩⟩, ⟨⟨0, 0, 0, 0⟩, ⟨0, 0, 0, 0⟩⟩, ⟨⟨0, 0, 0, 0⟩, ⟨0, 0, 0, 0⟩⟩, ⟨⟨0, 0, 0, 0⟩, ⟨0, 0, 0, 0⟩⟩, ⟨⟨0, 0, 0, 0⟩, ⟨0, 0, 0, 0⟩⟩⟩)) zeroValue41 rfl) rfl fun b1 => ?_
  refine .nil ?_
  refine .then ?_
  refine .seq ?_
  refine .reg rfl ?_
  refine .opx (X.alc (cs := (purse_Book.cs ⟨⟨⟨0, 0, 0, 0⟩, ⟨0, 0, 0, 0⟩⟩, ⟨⟨0, 0, 0, 0⟩, ⟨0, 0, 0, 0⟩⟩, ⟨⟨0, 0, 0, 0⟩, ⟨0, 0, 0, 0⟩⟩, ⟨⟨0, 0, 0, 0⟩, ⟨0, 0, 0, 0⟩⟩, ⟨⟨0, 0, 0, 0⟩, ⟨0, 0, 0, 0⟩⟩, ⟨⟨0, 0, 0, 0⟩, ⟨0, 0, 0, 0⟩⟩, ⟨⟨0, 0, 0, 0⟩, ⟨0, 0, 0, 0⟩⟩, ⟨⟨0, 0, 0, 0⟩, ⟨0, 0, 0, 0⟩⟩⟩)) zeroValue41 rfl) rfl fun b2 => ?_
  refine .nil ?_
  refine .then ?_
  refine .seq ?_
  refine .seq ?_
  refine .reg rfl ?_
  refine .opp (P.mov .k) rfl ?_
  refine .nil ?_
  refine .then ?_
  refine .block ?_
  refine .rounds 9 ?_
  refine .rd ?_
  refine .seq ?_
  refine .reg rfl ?_
  refine .opp (P.bin (v := Bo true) .g0 .k (BinV.lss.boolc (by decide))) rfl ?_
  refine .nil ?_
  refine .then ?_
  refine .seq ?_
  refine .condT .t0 ?_
  refine .skip ?_
  refine .then ?_
  refine .seq ?_
  refine .block ?_
  refine .seq ?_
  refine .reg rfl ?_
  refine .opp (P.mov .g0) rfl ?_
  refine .opp (P.asg .t0) rfl ?_
  refine .nil ?_
  refine .then ?_
  refine .seq ?_
  refine .reg rfl ?_
  refine .opp (P.mov .k) rfl ?_
  refine .nil ?_
  refine .then ?_
  refine .block ?_
  refine .rounds 3 ?_
  refine .rd ?_
  refine .seq ?_
  refine .reg rfl ?_
  refine .opp (P.bin (v := Bo true) .g0 .k (BinV.lss.boolc (by decide))) rfl ?_
  refine .nil ?_
  refine .then ?_
  refine .seq ?_
  refine .condT .t0 ?_
  refine .skip ?_
  refine .then ?_
  refine .seq ?_
  refine .block ?_
  refine .seq ?_
  refine .reg rfl ?_
  refine .opp (P.mov .g0) rfl ?_
  refine .opp (P.asg .t0) rfl ?_
  refine .nil ?_
  refine .then ?_
  refine .drawl [blk b1 41 (purse_Book.cs ⟨⟨⟨0, 0, 0, 0⟩, ⟨0, 0, 0, 0⟩⟩, ⟨⟨0, 0, 0, 0⟩, ⟨0, 0, 0, 0⟩⟩, ⟨⟨0, 0, 0, 0⟩, ⟨0, 0, 0, 0⟩⟩, ⟨⟨0, 0, 0, 0⟩, ⟨0, 0, 0, 0⟩⟩, ⟨⟨0, 0, 0, 0⟩, ⟨0, 0, 0, 0⟩⟩, ⟨⟨0, 0, 0, 0⟩, ⟨0, 0, 0, 0⟩⟩, ⟨⟨0, 0, 0, 0⟩, ⟨0, 0, 0, 0⟩⟩, ⟨⟨0, 0, 0, 0⟩, ⟨0, 0, 0, 0⟩⟩⟩)] [] (Ls.of (.cons .k1 .nil)) Rs.nil 7 (.on 0 .pu (.on 1 .pu (.on 2 .pu (.on 4 .pu (.on 3 .go (.on 5 .pu (.on 6 .go .nl))))))) follows_mixed (.inb (.thn (.thn (.inb (.inb (.thn (.thn (.inb (.thn .body))))))))) (by kernel_rfl) ?_
  refine .dpu rfl (.n rfl) (P.mov .g2) rfl rfl ?_
  refine .dpu rfl (.n rfl) (P.mov .t1) rfl rfl ?_
  refine .dpu rfl (.n rfl) (P.mov .g7) rfl rfl ?_
  refine .dpu rfl (.n rfl) (P.iac (i := 0) .t2 rfl .g5 runUnderlying41 sizeOf39 rfl rfl) rfl rfl ?_
  refine .dgo rfl (.n rfl) (G.call call36 (.cons .t1 .nil) (S_wide_Of a0 _ rfl) .nil .nil (fun _ _ => rfl) (fun _ _ => rfl) rfl) (.inr fun _ _ _ h => (h.imp (Ls.of (.cons .k1 .nil))).ro Rs.nil) fun _ _ => ?_
  refine .dpu rfl (.n rfl) (P.iac (i := 0) .t2 rfl .t1 runUnderlying39 sizeOf30 rfl rfl) rfl rfl ?_
  refine .dgo rfl (.n rfl) (G.str .t1 .t0 .k0 (.mk (cs' := (purse_Book.cs ⟨⟨(wide_Of a0), ⟨0, 0, 0, 0⟩⟩, ⟨⟨0, 0, 0, 0⟩, ⟨0, 0, 0, 0⟩⟩, ⟨⟨0, 0, 0, 0⟩, ⟨0, 0, 0, 0⟩⟩, ⟨⟨0, 0, 0, 0⟩, ⟨0, 0, 0, 0⟩⟩, ⟨⟨0, 0, 0, 0⟩, ⟨0, 0, 0, 0⟩⟩, ⟨⟨0, 0, 0, 0⟩, ⟨0, 0, 0, 0⟩⟩, ⟨⟨0, 0, 0, 0⟩, ⟨0, 0, 0, 0⟩⟩, ⟨⟨0, 0, 0, 0⟩, ⟨0, 0, 0, 0⟩⟩⟩)) sizeOf30 rfl rfl rfl rfl)) (.inr fun _ _ _ h => (h.imp (Ls.of (.cons .k1 .nil))).ro Rs.nil) fun _ _ => ?_
  refine .dnil ?_
  refine .inn ?_
  refine .then ?_
  refine .reg rfl ?_
  refine .opp (P.bin (v := N 1) .g0 .k (.addc (by decide))) rfl ?_
  refine .drop .k1 ?_
  refine .opp (P.mov .t0) rfl ?_
  refine .nil ?_
  refine .then ?_
  refine .rd ?_
  refine .seq ?_
  refine .reg rfl ?_
  refine .opp (P.bin (v := Bo true) .g0 .k (BinV.lss.boolc (by decide))) rfl ?_
  refine .nil ?_
  refine .then ?_
  refine .seq ?_
  refine .condT .t0 ?_
  refine .skip ?_
  refine .then ?_
  refine .seq ?_
  refine .block ?_
  refine .seq ?_
  refine .reg rfl ?_
  refine .opp (P.mov .g0) rfl ?_
  refine .opp (P.asg .t0) rfl ?_
  refine .nil ?_
  refine .then ?_
  refine .drawl [blk b1 41 (purse_Book.cs ⟨⟨⟨0, 0, 0, 0⟩, ⟨0, 0, 0, 0⟩⟩, ⟨⟨0, 0, 0, 0⟩, ⟨0, 0, 0, 0⟩⟩, ⟨⟨0, 0, 0, 0⟩, ⟨0, 0, 0, 0⟩⟩, ⟨⟨0, 0, 0, 0⟩, ⟨0, 0, 0, 0⟩⟩, ⟨⟨0, 0, 0, 0⟩, ⟨0, 0, 0, 0⟩⟩, ⟨⟨0, 0, 0, 0⟩, ⟨0, 0, 0, 0⟩⟩, ⟨⟨0, 0, 0, 0⟩, ⟨0, 0, 0, 0⟩⟩, ⟨⟨0, 0, 0, 0⟩, ⟨0, 0, 0, 0⟩⟩⟩)] [] (Ls.of (.cons .k1 .nil)) Rs.nil 7 (.on 0 .pu (.on 1 .pu (.on 2 .pu (.on 4 .pu (.on 3 .go (.on 5 .pu (.on 6 .go .nl))))))) follows_mixed (.inb (.thn (.thn (.inb (.inb (.thn (.thn (.inb (.thn .body))))))))) (by kernel_rfl) ?_
  refine .dpu rfl (.n rfl) (P.mov .g2) rfl rfl ?_
  refine .dpu rfl (.n rfl) (P.mov .t1) rfl rfl ?_
  refine .dpu rfl (.n rfl) (P.mov .g7) rfl rfl ?_
  refine .dpu rfl (.n rfl) (P.iac (i := 0) .t2 rfl .g5 runUnderlying41 sizeOf39 rfl rfl) rfl rfl ?_
  refine .dgo rfl (.n rfl) (G.call call36 (.cons .t1 .nil) (S_wide_Of a0 _ rfl) .nil .nil (fun _ _ => rfl) (fun _ _ => rfl) rfl) (.inr fun _ _ _ h => (h.imp (Ls.of (.cons .k1 .nil))).ro Rs.nil) fun _ _ => ?_
  refine .dpu rfl (.n rfl) (P.iac (i := 1) .t2 rfl .t1 runUnderlying39 sizeOf30 rfl rfl) rfl rfl ?_
  refine .dgo rfl (.n rfl) (G.str .t1 .t0 .k0 (.mk (cs' := (purse_Book.cs ⟨⟨(wide_Of a0), (wide_Of a0)⟩, ⟨⟨0, 0, 0, 0⟩, ⟨0, 0, 0, 0⟩⟩, ⟨⟨0, 0, 0, 0⟩, ⟨0, 0, 0, 0⟩⟩, ⟨⟨0, 0, 0, 0⟩, ⟨0, 0, 0, 0⟩⟩, ⟨⟨0, 0, 0, 0⟩, ⟨0, 0, 0, 0⟩⟩, ⟨⟨0, 0, 0, 0⟩, ⟨0, 0, 0, 0⟩⟩, ⟨⟨0, 0, 0, 0⟩, ⟨0, 0, 0, 0⟩⟩, ⟨⟨0, 0, 0, 0⟩, ⟨0, 0, 0, 0⟩⟩⟩)) sizeOf30 rfl rfl rfl rfl)) (.inr fun _ _ _ h => (h.imp (Ls.of (.cons .k1 .nil))).ro Rs.nil) fun _ _ => ?_
  refine .dnil ?_
  refine .inn ?_
  refine .then ?_
  refine .reg rfl ?_
  refine .opp (P.bin (v := N 2) .g0 .k (.addc (by decide))) rfl ?_
  refine .drop .k1 ?_
  refine .opp (P.mov .t0) rfl ?_
  refine .nil ?_
  refine .then ?_
  refine .rd ?_
  refine .seq ?_
  refine .reg rfl ?_
  refine .opp (P.bin (v := Bo false) .g0 .k (BinV.lss.boolc (by decide))) rfl ?_
  refine .nil ?_
  refine .then ?_
  refine .seq ?_
  refine .condF .t0 ?_
  refine .exit ?_
  refine .thx ?_
  refine .thx ?_
  refine .inb ?_
  refine .inn ?_
  refine .then ?_
  refine .reg rfl ?_
  refine .opp (P.bin (v := N 1) .g2 .k (.addc (by decide))) rfl ?_
  refine .drop .k3 ?_
  refine .opp (P.mov .t0) rfl ?_
  refine .nil ?_
  refine .then ?_
  refine .rd ?_
  refine .seq ?_
  refine .reg rfl ?_
  refine .opp (P.bin (v := Bo true) .g0 .k (BinV.lss.boolc (by decide))) rfl ?_
  refine .nil ?_
  refine .then ?_
  refine .seq ?_
  refine .condT .t0 ?_
  refine .skip ?_
  refine .then ?_
  refine .seq ?_
  refine .block ?_
  refine .seq ?_
  refine .reg rfl ?_
  refine .opp (P.mov .g0) rfl ?_
  refine .drop .k3 ?_
  refine .opp (P.asg .t0) rfl ?_
  refine .nil ?_
  refine .then ?_
  refine .seq ?_
  refine .reg rfl ?_
  refine .drop .k2 ?_
  refine .opp (P.mov .k) rfl ?_
  refine .nil ?_
  refine .then ?_
  refine .block ?_
  refine .rounds 3 ?_
  refine .rd ?_
  refine .seq ?_
  refine .reg rfl ?_
  refine .opp (P.bin (v := Bo true) .g0 .k (BinV.lss.boolc (by decide))) rfl ?_
  refine .nil ?_
  refine .then ?_
  refine .seq ?_
  refine .condT .t0 ?_
  refine .skip ?_
  refine .then ?_
  refine .seq ?_
  refine .block ?_
  refine .seq ?_
  refine .reg rfl ?_
  refine .opp (P.mov .g0) rfl ?_
  refine .opp (P.asg .t0) rfl ?_
  refine .nil ?_
  refine .then ?_
  refine .drawl [blk b1 41 (purse_Book.cs ⟨⟨⟨0, 0, 0, 0⟩, ⟨0, 0, 0, 0⟩⟩, ⟨⟨0, 0, 0, 0⟩, ⟨0, 0, 0, 0⟩⟩, ⟨⟨0, 0, 0, 0⟩, ⟨0, 0, 0, 0⟩⟩, ⟨⟨0, 0, 0, 0⟩, ⟨0, 0, 0, 0⟩⟩, ⟨⟨0, 0, 0, 0⟩, ⟨0, 0, 0, 0⟩⟩, ⟨⟨0, 0, 0, 0⟩, ⟨0, 0, 0, 0⟩⟩, ⟨⟨0, 0, 0, 0⟩, ⟨0, 0, 0, 0⟩⟩, ⟨⟨0, 0, 0, 0⟩, ⟨0, 0, 0, 0⟩⟩⟩)] [] (Ls.of (.cons .k1 .nil)) Rs.nil 7 (.on 0 .pu (.on 1 .pu (.on 2 .pu (.on 4 .pu (.on 3 .go (.on 5 .pu (.on 6 .go .nl))))))) follows_mixed (.inb (.thn (.thn (.inb (.inb (.thn (.thn (.inb (.thn .body))))))))) (by kernel_rfl) ?_
  refine .dpu rfl (.n rfl) (P.mov .g2) rfl rfl ?_
  refine .dpu rfl (.n rfl) (P.mov .t1) rfl rfl ?_
  refine .dpu rfl (.n rfl) (P.mov .g7) rfl rfl ?_
  refine .dpu rfl (.n rfl) (P.iac (i := 1) .t2 rfl .g5 runUnderlying41 sizeOf39 rfl rfl) rfl rfl ?_
  refine .dgo rfl (.n rfl) (G.call call36 (.cons .t1 .nil) (S_wide_Of a0 _ rfl) .nil .nil (fun _ _ => rfl) (fun _ _ => rfl) rfl) (.inr fun _ _ _ h => (h.imp (Ls.of (.cons .k1 .nil))).ro Rs.nil) fun _ _ => ?_
  refine .dpu rfl (.n rfl) (P.iac (i := 0) .t2 rfl .t1 runUnderlying39 sizeOf30 rfl rfl) rfl rfl ?_
  refine .dgo rfl (.n rfl) (G.str .t1 .t0 .k0 (.mk (cs' := (purse_Book.cs ⟨⟨(wide_Of a0), (wide_Of a0)⟩, ⟨(wide_Of a0), ⟨0, 0, 0, 0⟩⟩, ⟨⟨0, 0, 0, 0⟩, ⟨0, 0, 0, 0⟩⟩, ⟨⟨0, 0, 0, 0⟩, ⟨0, 0, 0, 0⟩⟩, ⟨⟨0, 0, 0, 0⟩, ⟨0, 0, 0, 0⟩⟩, ⟨⟨0, 0, 0, 0⟩, ⟨0, 0, 0, 0⟩⟩, ⟨⟨0, 0, 0, 0⟩, ⟨0, 0, 0, 0⟩⟩, ⟨⟨0, 0, 0, 0⟩, ⟨0, 0, 0, 0⟩⟩⟩)) sizeOf30 rfl rfl rfl rfl)) (.inr fun _ _ _ h => (h.imp (Ls.of (.cons .k1 .nil))).ro Rs.nil) fun _ _ => ?_
  refine .dnil ?_
  refine .inn ?_
  refine .then ?_
  refine .reg rfl ?_
  refine .opp (P.bin (v := N 1) .g0 .k (.addc (by decide))) rfl ?_
  refine .drop .k1 ?_
  refine .opp (P.mov .t0) rfl ?_
  refine .nil ?_
  refine .then ?_
  refine .rd ?_
  refine .seq ?_
  refine .reg rfl ?_
  refine .opp (P.bin (v := Bo true) .g0 .k (BinV.lss.boolc (by decide))) rfl ?_
  refine .nil ?_
  refine .then ?_
  refine .seq ?_
  refine .condT .t0 ?_
  refine .skip ?_
  refine .then ?_
  refine .seq ?_
  refine .block ?_
  refine .seq ?_
  refine .reg rfl ?_
  refine .opp (P.mov .g0) rfl ?_
  refine .opp (P.asg .t0) rfl ?_
  refine .nil ?_
  refine .then ?_
  refine .drawl [blk b1 41 (purse_Book.cs ⟨⟨⟨0, 0, 0, 0⟩, ⟨0, 0, 0, 0⟩⟩, ⟨⟨0, 0, 0, 0⟩, ⟨0, 0, 0, 0⟩⟩, ⟨⟨0, 0, 0, 0⟩, ⟨0, 0, 0, 0⟩⟩, ⟨⟨0, 0, 0, 0⟩, ⟨0, 0, 0, 0⟩⟩, ⟨⟨0, 0, 0, 0⟩, ⟨0, 0, 0, 0⟩⟩, ⟨⟨0, 0, 0, 0⟩, ⟨0, 0, 0, 0⟩⟩, ⟨⟨0, 0, 0, 0⟩, ⟨0, 0, 0, 0⟩⟩, ⟨⟨0, 0, 0, 0⟩, ⟨0, 0, 0, 0⟩⟩⟩)] [] (Ls.of (.cons .k1 .nil)) Rs.nil 7 (.on 0 .pu (.on 1 .pu (.on 2 .pu (.on 4 .pu (.on 3 .go (.on 5 .pu (.on 6 .go .nl))))))) follows_mixed (.inb (.thn (.thn (.inb (.inb (.thn (.thn (.inb (.thn .body))))))))) (by kernel_rfl) ?_
  refine .dpu rfl (.n rfl) (P.mov .g2) rfl rfl ?_
  refine .dpu rfl (.n rfl) (P.mov .t1) rfl rfl ?_
  refine .dpu rfl (.n rfl) (P.mov .g7) rfl rfl ?_
  refine .dpu rfl (.n rfl) (P.iac (i := 1) .t2 rfl .g5 runUnderlying41 sizeOf39 rfl rfl) rfl rfl ?_
  refine .dgo rfl (.n rfl) (G.call call36 (.cons .t1 .nil) (S_wide_Of a0 _ rfl) .nil .nil (fun _ _ => rfl) (fun _ _ => rfl) rfl) (.inr fun _ _ _ h => (h.imp (Ls.of (.cons .k1 .nil))).ro Rs.nil) fun _ _ => ?_
  refine .dpu rfl (.n rfl) (P.iac (i := 1) .t2 rfl .t1 runUnderlying39 sizeOf30 rfl rfl) rfl rfl ?_
  refine .dgo rfl (.n rfl) (G.str .t1 .t0 .k0 (.mk (cs' := (purse_Book.cs ⟨⟨(wide_Of a0), (wide_Of a0)⟩, ⟨(wide_Of a0), (wide_Of a0)⟩, ⟨⟨0, 0, 0, 0⟩, ⟨0, 0, 0, 0⟩⟩, ⟨⟨0, 0, 0, 0⟩, ⟨0, 0, 0, 0⟩⟩, ⟨⟨0, 0, 0, 0⟩, ⟨0, 0, 0, 0⟩⟩, ⟨⟨0, 0, 0, 0⟩, ⟨0, 0, 0, 0⟩⟩, ⟨⟨0, 0, 0, 0⟩, ⟨0, 0, 0, 0⟩⟩, ⟨⟨0, 0, 0, 0⟩, ⟨0, 0, 0, 0⟩⟩⟩)) sizeOf30 rfl rfl rfl rfl)) (.inr fun _ _ _ h => (h.imp (Ls.of (.cons .k1 .nil))).ro Rs.nil) fun _ _ => ?_
  refine .dnil ?_
  refine .inn ?_
  refine .then ?_
  refine .reg rfl ?_
  refine .opp (P.bin (v := N 2) .g0 .k (.addc (by decide))) rfl ?_
  refine .drop .k1 ?_
  refine .opp (P.mov .t0) rfl ?_
  refine .nil ?_
  refine .then ?_
  refine .rd ?_
  refine .seq ?_
  refine .reg rfl ?_
  refine .opp (P.bin (v := Bo false) .g0 .k (BinV.lss.boolc (by decide))) rfl ?_
  refine .nil ?_
  refine .then ?_
  refine .seq ?_
  refine .condF .t0 ?_
  refine .exit ?_
  refine .thx ?_
  refine .thx ?_
  refine .inb ?_
  refine .inn ?_
  refine .then ?_
  refine .reg rfl ?_
  refine .opp (P.bin (v := N 2) .g2 .k (.addc (by decide))) rfl ?_
  refine .drop .k3 ?_
  refine .opp (P.mov .t0) rfl ?_
  refine .nil ?_
  refine .then ?_
  refine .rd ?_
  refine .seq ?_
  refine .reg rfl ?_
  refine .opp (P.bin (v := Bo true) .g0 .k (BinV.lss.boolc (by decide))) rfl ?_
  refine .nil ?_
  refine .then ?_
  refine .seq ?_
  refine .condT .t0 ?_
  refine .skip ?_
  refine .then ?_
  refine .seq ?_
  refine .block ?_
  refine .seq ?_
  refine .reg rfl ?_
  refine .opp (P.mov .g0) rfl ?_
  refine .drop .k3 ?_
  refine .opp (P.asg .t0) rfl ?_
  refine .nil ?_
  refine .then ?_
  refine .seq ?_
  refine .reg rfl ?_
  refine .drop .k2 ?_
  refine .opp (P.mov .k) rfl ?_
  refine .nil ?_
  refine .then ?_
  refine .block ?_
  refine .rounds 3 ?_
  refine .rd ?_
  refine .seq ?_
  refine .reg rfl ?_
  refine .opp (P.bin (v := Bo true) .g0 .k (BinV.lss.boolc (by decide))) rfl ?_
  refine .nil ?_
  refine .then ?_
  refine .seq ?_
  refine .condT .t0 ?_
  refine .skip ?_
  refine .then ?_
  refine .seq ?_
  refine .block ?_
  refine .seq ?_
  refine .reg rfl ?_
  refine .opp (P.mov .g0) rfl ?_
  refine .opp (P.asg .t0) rfl ?_
  refine .nil ?_
  refine .then ?_
  refine .drawl [blk b1 41 (purse_Book.cs ⟨⟨⟨0, 0, 0, 0⟩, ⟨0, 0, 0, 0⟩⟩, ⟨⟨0, 0, 0, 0⟩, ⟨0, 0, 0, 0⟩⟩, ⟨⟨0, 0, 0, 0⟩, ⟨0, 0, 0, 0⟩⟩, ⟨⟨0, 0, 0, 0⟩, ⟨0, 0, 0, 0⟩⟩, ⟨⟨0, 0, 0, 0⟩, ⟨0, 0, 0, 0⟩⟩, ⟨⟨0, 0, 0, 0⟩, ⟨0, 0, 0, 0⟩⟩, ⟨⟨0, 0, 0, 0⟩, ⟨0, 0, 0, 0⟩⟩, ⟨⟨0, 0, 0, 0⟩, ⟨0, 0, 0, 0⟩⟩⟩)] [] (Ls.of (.cons .k1 .nil)) Rs.nil 7 (.on 0 .pu (.on 1 .pu (.on 2 .pu (.on 4 .pu (.on 3 .go (.on 5 .pu (.on 6 .go .nl))))))) follows_mixed (.inb (.thn (.thn (.inb (.inb (.thn (.thn (.inb (.thn .body))))))))) (by kernel_rfl) ?_
  refine .dpu rfl (.n rfl) (P.mov .g2) rfl rfl ?_
  refine .dpu rfl (.n rfl) (P.mov .t1) rfl rfl ?_
  refine .dpu rfl (.n rfl) (P.mov .g7) rfl rfl ?_
  refine .dpu rfl (.n rfl) (P.iac (i := 2) .t2 rfl .g5 runUnderlying41 sizeOf39 rfl rfl) rfl rfl ?_
  refine .dgo rfl (.n rfl) (G.call call36 (.cons .t1 .nil) (S_wide_Of a0 _ rfl) .nil .nil (fun _ _ => rfl) (fun _ _ => rfl) rfl) (.inr fun _ _ _ h => (h.imp (Ls.of (.cons .k1 .nil))).ro Rs.nil) fun _ _ => ?_
  refine .dpu rfl (.n rfl) (P.iac (i := 0) .t2 rfl .t1 runUnderlying39 sizeOf30 rfl rfl) rfl rfl ?_
  refine .dgo rfl (.n rfl) (G.str .t1 .t0 .k0 (.mk (cs' := (purse_Book.cs ⟨⟨(wide_Of a0), (wide_Of a0)⟩, ⟨(wide_Of a0), (wide_Of a0)⟩, ⟨(wide_Of a0), ⟨0, 0, 0, 0⟩⟩, ⟨⟨0, 0, 0, 0⟩, ⟨0, 0, 0, 0⟩⟩, ⟨⟨0, 0, 0, 0⟩, ⟨0, 0, 0, 0⟩⟩, ⟨⟨0, 0, 0, 0⟩, ⟨0, 0, 0, 0⟩⟩, ⟨⟨0, 0, 0, 0⟩, ⟨0, 0, 0, 0⟩⟩, ⟨⟨0, 0, 0, 0⟩, ⟨0, 0, 0, 0⟩⟩⟩)) sizeOf30 rfl rfl rfl rfl)) (.inr fun _ _ _ h => (h.imp (Ls.of (.cons .k1 .nil))).ro Rs.nil) fun _ _ => ?_
  refine .dnil ?_
  refine .inn ?_
  refine .then ?_
  refine .reg rfl ?_
  refine .opp (P.bin (v := N 1) .g0 .k (.addc (by decide))) rfl ?_
  refine .drop .k1 ?_
  refine .opp (P.mov .t0) rfl ?_
  refine .nil ?_
  refine .then ?_
  refine .rd ?_
  refine .seq ?_
  refine .reg rfl ?_
  refine .opp (P.bin (v := Bo true) .g0 .k (BinV.lss.boolc (by decide))) rfl ?_
  refine .nil ?_
  refine .then ?_
  refine .seq ?_
  refine .condT .t0 ?_
  refine .skip ?_
  refine .then ?_
  refine .seq ?_
  refine .block ?_
  refine .seq ?_
  refine .reg rfl ?_
  refine .opp (P.mov .g0) rfl ?_
  refine .opp (P.asg .t0) rfl ?_
  refine .nil ?_
  refine .then ?_
  refine .drawl [blk b1 41 (purse_Book.cs ⟨⟨⟨0, 0, 0, 0⟩, ⟨0, 0, 0, 0⟩⟩, ⟨⟨0, 0, 0, 0⟩, ⟨0, 0, 0, 0⟩⟩, ⟨⟨0, 0, 0, 0⟩, ⟨0, 0, 0, 0⟩⟩, ⟨⟨0, 0, 0, 0⟩, ⟨0, 0, 0, 0⟩⟩, ⟨⟨0, 0, 0, 0⟩, ⟨0, 0, 0, 0⟩⟩, ⟨⟨0, 0, 0, 0⟩, ⟨0, 0, 0, 0⟩⟩, ⟨⟨0, 0, 0, 0⟩, ⟨0, 0, 0, 0⟩⟩, ⟨⟨0, 0, 0, 0⟩, ⟨0, 0, 0, 0⟩⟩⟩)] [] (Ls.of (.cons .k1 .nil)) Rs.nil 7 (.on 0 .pu (.on 1 .pu (.on 2 .pu (.on 4 .pu (.on 3 .go (.on 5 .pu (.on 6 .go .nl))))))) follows_mixed (.inb (.thn (.thn (.inb (.inb (.thn (.thn (.inb (.thn .body))))))))) (by kernel_rfl) ?_
  refine .dpu rfl (.n rfl) (P.mov .g2) rfl rfl ?_
  refine .dpu rfl (.n rfl) (P.mov .t1) rfl rfl ?_
  refine .dpu rfl (.n rfl) (P.mov .g7) rfl rfl ?_
  refine .dpu rfl (.n rfl) (P.iac (i := 2) .t2 rfl .g5 runUnderlying41 sizeOf39 rfl rfl) rfl rfl ?_
  refine .dgo rfl (.n rfl) (G.call call36 (.cons .t1 .nil) (S_wide_Of a0 _ rfl) .nil .nil (fun _ _ => rfl) (fun _ _ => rfl) rfl) (.inr fun _ _ _ h => (h.imp (Ls.of (.cons .k1 .nil))).ro Rs.nil) fun _ _ => ?_
  refine .dpu rfl (.n rfl) (P.iac (i := 1) .t2 rfl .t1 runUnderlying39 sizeOf30 rfl rfl) rfl rfl ?_
  refine .dgo rfl (.n rfl) (G.str .t1 .t0 .k0 (.mk (cs' := (purse_Book.cs ⟨⟨(wide_Of a0), (wide_Of a0)⟩, ⟨(wide_Of a0), (wide_Of a0)⟩, ⟨(wide_Of a0), (wide_Of a0)⟩, ⟨⟨0, 0, 0, 0⟩, ⟨0, 0, 0, 0⟩⟩, ⟨⟨0, 0, 0, 0⟩, ⟨0, 0, 0, 0⟩⟩, ⟨⟨0, 0, 0, 0⟩, ⟨0, 0, 0, 0⟩⟩, ⟨⟨0, 0, 0, 0⟩, ⟨0, 0, 0, 0⟩⟩, ⟨⟨0, 0, 0, 0⟩, ⟨0, 0, 0, 0⟩⟩⟩)) sizeOf30 rfl rfl rfl rfl)) (.inr fun _ _ _ h => (h.imp (Ls.of (.cons .k1 .nil))).ro Rs.nil) fun _ _ => ?_
  refine .dnil ?_
  refine .inn ?_
  refine .then ?_
  refine .reg rfl ?_
  refine .opp (P.bin (v := N 2) .g0 .k (.addc (by decide))) rfl ?_
  refine .drop .k1 ?_
  refine .opp (P.mov .t0) rfl ?_
  refine .nil ?_
  refine .then ?_
  refine .rd ?_
  refine .seq ?_
  refine .reg rfl ?_
  refine .opp (P.bin (v := Bo false) .g0 .k (BinV.lss.boolc (by decide))) rfl ?_
  refine .nil ?_
  refine .then ?_
  refine .seq ?_
  refine .condF .t0 ?_
  refine .exit ?_
  refine .thx ?_
  refine .thx ?_
  refine .inb ?_
  refine .inn ?_
  refine .then ?_
  refine .reg rfl ?_
  refine .opp (P.bin (v := N 3) .g2 .k (.addc (by decide))) rfl ?_
  refine .drop .k3 ?_
  refine .opp (P.mov .t0) rfl ?_
  refine .nil ?_
  refine .then ?_
  refine .rd ?_
  refine .seq ?_
  refine .reg rfl ?_
  refine .opp (P.bin (v := Bo true) .g0 .k (BinV.lss.boolc (by decide))) rfl ?_
  refine .nil ?_
  refine .then ?_
  refine .seq ?_
  refine .condT .t0 ?_
  refine .skip ?_
  refine .then ?_
  refine .seq ?_
  refine .block ?_
  refine .seq ?_
  refine .reg rfl ?_
  refine .opp (P.mov .g0) rfl ?_
  refine .drop .k3 ?_
  refine .opp (P.asg .t0) rfl ?_
  refine .nil ?_
  refine .then ?_
  refine .seq ?_
  refine .reg rfl ?_
  refine .drop .k2 ?_
  refine .opp (P.mov .k) rfl ?_
  refine .nil ?_
  refine .then ?_
  refine .block ?_
  refine .rounds 3 ?_
  refine .rd ?_
  refine .seq ?_
  refine .reg rfl ?_
  refine .opp (P.bin (v := Bo true) .g0 .k (BinV.lss.boolc (by decide))) rfl ?_
  refine .nil ?_
  refine .then ?_
  refine .seq ?_
  refine .condT .t0 ?_
  refine .skip ?_
  refine .then ?_
  refine .seq ?_
  refine .block ?_
  refine .seq ?_
  refine .reg rfl ?_
  refine .opp (P.mov .g0) rfl ?_
  refine .opp (P.asg .t0) rfl ?_
  refine .nil ?_
  refine .then ?_
  refine .drawl [blk b1 41 (purse_Book.cs ⟨⟨⟨0, 0, 0, 0⟩, ⟨0, 0, 0, 0⟩⟩, ⟨⟨0, 0, 0, 0⟩, ⟨0, 0, 0, 0⟩⟩, ⟨⟨0, 0, 0, 0⟩, ⟨0, 0, 0, 0⟩⟩, ⟨⟨0, 0, 0, 0⟩, ⟨0, 0, 0, 0⟩⟩, ⟨⟨0, 0, 0, 0⟩, ⟨0, 0, 0, 0⟩⟩, ⟨⟨0, 0, 0, 0⟩, ⟨0, 0, 0, 0⟩⟩, ⟨⟨0, 0, 0, 0⟩, ⟨0, 0, 0, 0⟩⟩, ⟨⟨0, 0, 0, 0⟩, ⟨0, 0, 0, 0⟩⟩⟩)] [] (Ls.of (.cons .k1 .nil)) Rs.nil 7 (.on 0 .pu (.on 1 .pu (.on 2 .pu (.on 4 .pu (.on 3 .go (.on 5 .pu (.on 6 .go .nl))))))) follows_mixed (.inb (.thn (.thn (.inb (.inb (.thn (.thn (.inb (.thn .body))))))))) (by kernel_rfl) ?_
  refine .dpu rfl (.n rfl) (P.mov .g2) rfl rfl ?_
  refine .dpu rfl (.n rfl) (P.mov .t1) rfl rfl ?_
  refine .dpu rfl (.n rfl) (P.mov .g7) rfl rfl ?_
  refine .dpu rfl (.n rfl) (P.iac (i := 3) .t2 rfl .g5 runUnderlying41 sizeOf39 rfl rfl) rfl rfl ?_
  refine .dgo rfl (.n rfl) (G.call call36 (.cons .t1 .nil) (S_wide_Of a0 _ rfl) .nil .nil (fun _ _ => rfl) (fun _ _ => rfl) rfl) (.inr fun _ _ _ h => (h.imp (Ls.of (.cons .k1 .nil))).ro Rs.nil) fun _ _ => ?_
  refine .dpu rfl (.n rfl) (P.iac (i := 0) .t2 rfl .t1 runUnderlying39 sizeOf30 rfl rfl) rfl rfl ?_
  refine .dgo rfl (.n rfl) (G.str .t1 .t0 .k0 (.mk (cs' := (purse_Book.cs ⟨⟨(wide_Of a0), (wide_Of a0)⟩, ⟨(wide_Of a0), (wide_Of a0)⟩, ⟨(wide_Of a0), (wide_Of a0)⟩, ⟨(wide_Of a0), ⟨0, 0, 0, 0⟩⟩, ⟨⟨0, 0, 0, 0⟩, ⟨0, 0, 0, 0⟩⟩, ⟨⟨0, 0, 0, 0⟩, ⟨0, 0, 0, 0⟩⟩, ⟨⟨0, 0, 0, 0⟩, ⟨0, 0, 0, 0⟩⟩, ⟨⟨0, 0, 0, 0⟩, ⟨0, 0, 0, 0⟩⟩⟩)) sizeOf30 rfl rfl rfl rfl)) (.inr fun _ _ _ h => (h.imp (Ls.of (.cons .k1 .nil))).ro Rs.nil) fun _ _ => ?_
  refine .dnil ?_
  refine .inn ?_
  refine .then ?_
  refine .reg rfl ?_
  refine .opp (P.bin (v := N 1) .g0 .k (.addc (by decide))) rfl ?_
  refine .drop .k1 ?_
  refine .opp (P.mov .t0) rfl ?_
  refine .nil ?_
  refine .then ?_
  refine .rd ?_
  refine .seq ?_
  refine .reg rfl ?_
  refine .opp (P.bin (v := Bo true) .g0 .k (BinV.lss.boolc (by decide))) rfl ?_
  refine .nil ?_
  refine .then ?_
  refine .seq ?_
  refine .condT .t0 ?_
  refine .skip ?_
  refine .then ?_
  refine .seq ?_
  refine .block ?_
  refine .seq ?_
  refine .reg rfl ?_
  refine .opp (P.mov .g0) rfl ?_
  refine .opp (P.asg .t0) rfl ?_
  refine .nil ?_
  refine .then ?_
  refine .drawl [blk b1 41 (purse_Book.cs ⟨⟨⟨0, 0, 0, 0⟩, ⟨0, 0, 0, 0⟩⟩, ⟨⟨0, 0, 0, 0⟩, ⟨0, 0, 0, 0⟩⟩, ⟨⟨0, 0, 0, 0⟩, ⟨0, 0, 0, 0⟩⟩, ⟨⟨0, 0, 0, 0⟩, ⟨0, 0, 0, 0⟩⟩, ⟨⟨0, 0, 0, 0⟩, ⟨0, 0, 0, 0⟩⟩, ⟨⟨0, 0, 0, 0⟩, ⟨0, 0, 0, 0⟩⟩, ⟨⟨0, 0, 0, 0⟩, ⟨0, 0, 0, 0⟩⟩, ⟨⟨0, 0, 0, 0⟩, ⟨0, 0, 0, 0⟩⟩⟩)] [] (Ls.of (.cons .k1 .nil)) Rs.nil 7 (.on 0 .pu (.on 1 .pu (.on 2 .pu (.on 4 .pu (.on 3 .go (.on 5 .pu (.on 6 .go .nl))))))) follows_mixed (.inb (.thn (.thn (.inb (.inb (.thn (.thn (.inb (.thn .body))))))))) (by kernel_rfl) ?_
  refine .dpu rfl (.n rfl) (P.mov .g2) rfl rfl ?_
  refine .dpu rfl (.n rfl) (P.mov .t1) rfl rfl ?_
  refine .dpu rfl (.n rfl) (P.mov .g7) rfl rfl ?_
  refine .dpu rfl (.n rfl) (P.iac (i := 3) .t2 rfl .g5 runUnderlying41 sizeOf39 rfl rfl) rfl rfl ?_
  refine .dgo rfl (.n rfl) (G.call call36 (.cons .t1 .nil) (S_wide_Of a0 _ rfl) .nil .nil (fun _ _ => rfl) (fun _ _ => rfl) rfl) (.inr fun _ _ _ h => (h.imp (Ls.of (.cons .k1 .nil))).ro Rs.nil) fun _ _ => ?_
  refine .dpu rfl (.n rfl) (P.iac (i := 1) .t2 rfl .t1 runUnderlying39 sizeOf30 rfl rfl) rfl rfl ?_
  refine .dgo rfl (.n rfl) (G.str .t1 .t0 .k0 (.mk (cs' := (purse_Book.cs ⟨⟨(wide_Of a0), (wide_Of a0)⟩, ⟨(wide_Of a0), (wide_Of a0)⟩, ⟨(wide_Of a0), (wide_Of a0)⟩, ⟨(wide_Of a0), (wide_Of a0)⟩, ⟨⟨0, 0, 0, 0⟩, ⟨0, 0, 0, 0⟩⟩, ⟨⟨0, 0, 0, 0⟩, ⟨0, 0, 0, 0⟩⟩, ⟨⟨0, 0, 0, 0⟩, ⟨0, 0, 0, 0⟩⟩, ⟨⟨0, 0, 0, 0⟩, ⟨0, 0, 0, 0⟩⟩⟩)) sizeOf30 rfl rfl rfl rfl)) (.inr fun _ _ _ h => (h.imp (Ls.of (.cons .k1 .nil))).ro Rs.nil) fun _ _ => ?_
  refine .dnil ?_
  refine .inn ?_
  refine .then ?_
  refine .reg rfl ?_
  refine .opp (P.bin (v := N 2) .g0 .k (.addc (by decide))) rfl ?_
  refine .drop .k1 ?_
  refine .opp (P.mov .t0) rfl ?_
  refine .nil ?_
  refine .then ?_
  refine .rd ?_
  refine .seq ?_
  refine .reg rfl ?_
  refine .opp (P.bin (v := Bo false) .g0 .k (BinV.lss.boolc (by decide))) rfl ?_
  refine .nil ?_
  refine .then ?_
  refine .seq ?_
  refine .condF .t0 ?_
  refine .exit ?_
  refine .thx ?_
  refine .thx ?_
  refine .inb ?_
  refine .inn ?_
  refine .then ?_
  refine .reg rfl ?_
  refine .opp (P.bin (v := N 4) .g2 .k (.addc (by decide))) rfl ?_
  refine .drop .k3 ?_
  refine .opp (P.mov .t0) rfl ?_
  refine .nil ?_
  refine .then ?_
  refine .rd ?_
  refine .seq ?_
  refine .reg rfl ?_
  refine .opp (P.bin (v := Bo true) .g0 .k (BinV.lss.boolc (by decide))) rfl ?_
  refine .nil ?_
  refine .then ?_
  refine .seq ?_
  refine .condT .t0 ?_
  refine .skip ?_
  refine .then ?_
  refine .seq ?_
  refine .block ?_
  refine .seq ?_
  refine .reg rfl ?_
  refine .opp (P.mov .g0) rfl ?_
  refine .drop .k3 ?_
  refine .opp (P.asg .t0) rfl ?_
  refine .nil ?_
  refine .then ?_
  refine .seq ?_
  refine .reg rfl ?_
  refine .drop .k2 ?_
  refine .opp (P.mov .k) rfl ?_
  refine .nil ?_
  refine .then ?_
  refine .block ?_
  refine .rounds 3 ?_
  refine .rd ?_
  refine .seq ?_
  refine .reg rfl ?_
  refine .opp (P.bin (v := Bo true) .g0 .k (BinV.lss.boolc (by decide))) rfl ?_
  refine .nil ?_
  refine .then ?_
  refine .seq ?_
  refine .condT .t0 ?_
  refine .skip ?_
  refine .then ?_
  refine .seq ?_
  refine .block ?_
  refine .seq ?_
  refine .reg rfl ?_
  refine .opp (P.mov .g0) rfl ?_
  refine .opp (P.asg .t0) rfl ?_
  refine .nil ?_
  refine .then ?_
  refine .drawl [blk b1 41 (purse_Book.cs ⟨⟨⟨0, 0, 0, 0⟩, ⟨0, 0, 0, 0⟩⟩, ⟨⟨0, 0, 0, 0⟩, ⟨0, 0, 0, 0⟩⟩, ⟨⟨0, 0, 0, 0⟩, ⟨0, 0, 0, 0⟩⟩, ⟨⟨0, 0, 0, 0⟩, ⟨0, 0, 0, 0⟩⟩, ⟨⟨0, 0, 0, 0⟩, ⟨0, 0, 0, 0⟩⟩, ⟨⟨0, 0, 0, 0⟩, ⟨0, 0, 0, 0⟩⟩, ⟨⟨0, 0, 0, 0⟩, ⟨0, 0, 0, 0⟩⟩, ⟨⟨0, 0, 0, 0⟩, ⟨0, 0, 0, 0⟩⟩⟩)] [] (Ls.of (.cons .k1 .nil)) Rs.nil 7 (.on 0 .pu (.on 1 .pu (.on 2 .pu (.on 4 .pu (.on 3 .go (.on 5 .pu (.on 6 .go .nl))))))) follows_mixed (.inb (.thn (.thn (.inb (.inb (.thn (.thn (.inb (.thn .body))))))))) (by kernel_rfl) ?_
  refine .dpu rfl (.n rfl) (P.mov .g2) rfl rfl ?_
  refine .dpu rfl (.n rfl) (P.mov .t1) rfl rfl ?_
  refine .dpu rfl (.n rfl) (P.mov .g7) rfl rfl ?_
  refine .dpu rfl (.n rfl) (P.iac (i := 4) .t2 rfl .g5 runUnderlying41 sizeOf39 rfl rfl) rfl rfl ?_
  refine .dgo rfl (.n rfl) (G.call call36 (.cons .t1 .nil) (S_wide_Of a0 _ rfl) .nil .nil (fun _ _ => rfl) (fun _ _ => rfl) rfl) (.inr fun _ _ _ h => (h.imp (Ls.of (.cons .k1 .nil))).ro Rs.nil) fun _ _ => ?_
  refine .dpu rfl (.n rfl) (P.iac (i := 0) .t2 rfl .t1 runUnderlying39 sizeOf30 rfl rfl) rfl rfl ?_
  refine .dgo rfl (.n rfl) (G.str .t1 .t0 .k0 (.mk (cs' := (purse_Book.cs ⟨⟨(wide_Of a0), (wide_Of a0)⟩, ⟨(wide_Of a0), (wide_Of a0)⟩, ⟨(wide_Of a0), (wide_Of a0)⟩, ⟨(wide_Of a0), (wide_Of a0)⟩, ⟨(wide_Of a0), ⟨0, 0, 0, 0⟩⟩, ⟨⟨0, 0, 0, 0⟩, ⟨0, 0, 0, 0⟩⟩, ⟨⟨0, 0, 0, 0⟩, ⟨0, 0, 0, 0⟩⟩, ⟨⟨0, 0, 0, 0⟩, ⟨0, 0, 0, 0⟩⟩⟩)) sizeOf30 rfl rfl rfl rfl)) (.inr fun _ _ _ h => (h.imp (Ls.of (.cons .k1 .nil))).ro Rs.nil) fun _ _ => ?_
  refine .dnil ?_
  refine .inn ?_
  refine .then ?_
  refine .reg rfl ?_
  refine .opp (P.bin (v := N 1) .g0 .k (.addc (by decide))) rfl ?_
  refine .drop .k1 ?_
  refine .opp (P.mov .t0) rfl ?_
  refine .nil ?_
  refine .then ?_
  refine .rd ?_
  refine .seq ?_
  refine .reg rfl ?_
  refine .opp (P.bin (v := Bo true) .g0 .k (BinV.lss.boolc (by decide))) rfl ?_
  refine .nil ?_
  refine .then ?_
  refine .seq ?_
  refine .condT .t0 ?_
  refine .skip ?_
  refine .then ?_
  refine .seq ?_
  refine .block ?_
  refine .seq ?_
  refine .reg rfl ?_
  refine .opp (P.mov .g0) rfl ?_
  refine .opp (P.asg .t0) rfl ?_
  refine .nil ?_
  refine .then ?_
  refine .drawl [blk b1 41 (purse_Book.cs ⟨⟨⟨0, 0, 0, 0⟩, ⟨0, 0, 0, 0⟩⟩, ⟨⟨0, 0, 0, 0⟩, ⟨0, 0, 0, 0⟩⟩, ⟨⟨0, 0, 0, 0⟩, ⟨0, 0, 0, 0⟩⟩, ⟨⟨0, 0, 0, 0⟩, ⟨0, 0, 0, 0⟩⟩, ⟨⟨0, 0, 0, 0⟩, ⟨0, 0, 0, 0⟩⟩, ⟨⟨0, 0, 0, 0⟩, ⟨0, 0, 0, 0⟩⟩, ⟨⟨0, 0, 0, 0⟩, ⟨0, 0, 0, 0⟩⟩, ⟨⟨0, 0, 0, 0⟩, ⟨0, 0, 0, 0⟩⟩⟩)] [] (Ls.of (.cons .k1 .nil)) Rs.nil 7 (.on 0 .pu (.on 1 .pu (.on 2 .pu (.on 4 .pu (.on 3 .go (.on 5 .pu (.on 6 .go .nl))))))) follows_mixed (.inb (.thn (.thn (.inb (.inb (.thn (.thn (.inb (.thn .body))))))))) (by kernel_rfl) ?_
  refine .dpu rfl (.n rfl) (P.mov .g2) rfl rfl ?_
  refine .dpu rfl (.n rfl) (P.mov .t1) rfl rfl ?_
  refine .dpu rfl (.n rfl) (P.mov .g7) rfl rfl ?_
  refine .dpu rfl (.n rfl) (P.iac (i := 4) .t2 rfl .g5 runUnderlying41 sizeOf39 rfl rfl) rfl rfl ?_
  refine .dgo rfl (.n rfl) (G.call call36 (.cons .t1 .nil) (S_wide_Of a0 _ rfl) .nil .nil (fun _ _ => rfl) (fun _ _ => rfl) rfl) (.inr fun _ _ _ h => (h.imp (Ls.of (.cons .k1 .nil))).ro Rs.nil) fun _ _ => ?_
  refine .dpu rfl (.n rfl) (P.iac (i := 1) .t2 rfl .t1 runUnderlying39 sizeOf30 rfl rfl) rfl rfl ?_
  refine .dgo rfl (.n rfl) (G.str .t1 .t0 .k0 (.mk (cs' := (purse_Book.cs ⟨⟨(wide_Of a0), (wide_Of a0)⟩, ⟨(wide_Of a0), (wide_Of a0)⟩, ⟨(wide_Of a0), (wide_Of a0)⟩, ⟨(wide_Of a0), (wide_Of a0)⟩, ⟨(wide_Of a0), (wide_Of a0)⟩, ⟨⟨0, 0, 0, 0⟩, ⟨0, 0, 0, 0⟩⟩, ⟨⟨0, 0, 0, 0⟩, ⟨0, 0, 0, 0⟩⟩, ⟨⟨0, 0, 0, 0⟩, ⟨0, 0, 0, 0⟩⟩⟩)) sizeOf30 rfl rfl rfl rfl)) (.inr fun _ _ _ h => (h.imp (Ls.of (.cons .k1 .nil))).ro Rs.nil) fun _ _ => ?_
  refine .dnil ?_
  refine .inn ?_
  refine .then ?_
  refine .reg rfl ?_
  refine .opp (P.bin (v := N 2) .g0 .k (.addc (by decide))) rfl ?_
  refine .drop .k1 ?_
  refine .opp (P.mov .t0) rfl ?_
  refine .nil ?_
  refine .then ?_
  refine .rd ?_
  refine .seq ?_
  refine .reg rfl ?_
  refine .opp (P.bin (v := Bo false) .g0 .k (BinV.lss.boolc (by decide))) rfl ?_
  refine .nil ?_
  refine .then ?_
  refine .seq ?_
  refine .condF .t0 ?_
  refine .exit ?_
  refine .thx ?_
  refine .thx ?_
  refine .inb ?_
  refine .inn ?_
  refine .then ?_
  refine .reg rfl ?_
  refine .opp (P.bin (v := N 5) .g2 .k (.addc (by decide))) rfl ?_
  refine .drop .k3 ?_
  refine .opp (P.mov .t0) rfl ?_
  refine .nil ?_
  refine .then ?_
  refine .rd ?_
  refine .seq ?_
  refine .reg rfl ?_
  refine .opp (P.bin (v := Bo true) .g0 .k (BinV.lss.boolc (by decide))) rfl ?_
  refine .nil ?_
  refine .then ?_
  refine .seq ?_
  refine .condT .t0 ?_
  refine .skip ?_
  refine .then ?_
  refine .seq ?_
  refine .block ?_
  refine .seq ?_
  refine .reg rfl ?_
  refine .opp (P.mov .g0) rfl ?_
  refine .drop .k3 ?_
  refine .opp (P.asg .t0) rfl ?_
  refine .nil ?_
  refine .then ?_
  refine .seq ?_
  refine .reg rfl ?_
  refine .drop .k2 ?_
  refine .opp (P.mov .k) rfl ?_
  refine .nil ?_
  refine .then ?_
  refine .block ?_
  refine .rounds 3 ?_
  refine .rd ?_
  refine .seq ?_
  refine .reg rfl ?_
  refine .opp (P.bin (v := Bo true) .g0 .k (BinV.lss.boolc (by decide))) rfl ?_
  refine .nil ?_
  refine .then ?_
  refine .seq ?_
  refine .condT .t0 ?_
  refine .skip ?_
  refine .then ?_
  refine .seq ?_
  refine .block ?_
  refine .seq ?_
  refine .reg rfl ?_
  refine .opp (P.mov .g0) rfl ?_
  refine .opp (P.asg .t0) rfl ?_
  refine .nil ?_
  refine .then ?_
  refine .drawl [blk b1 41 (purse_Book.cs ⟨⟨⟨0, 0, 0, 0⟩, ⟨0, 0, 0, 0⟩⟩, ⟨⟨0, 0, 0, 0⟩, ⟨0, 0, 0, 0⟩⟩, ⟨⟨0, 0, 0, 0⟩, ⟨0, 0, 0, 0⟩⟩, ⟨⟨0, 0, 0, 0⟩, ⟨0, 0, 0, 0⟩⟩, ⟨⟨0, 0, 0, 0⟩, ⟨0, 0, 0, 0⟩⟩, ⟨⟨0, 0, 0, 0⟩, ⟨0, 0, 0, 0⟩⟩, ⟨⟨0, 0, 0, 0⟩, ⟨0, 0, 0, 0⟩⟩, ⟨⟨0, 0, 0, 0⟩, ⟨0, 0, 0, 0⟩⟩⟩)] [] (Ls.of (.cons .k1 .nil)) Rs.nil 7 (.on 0 .pu (.on 1 .pu (.on 2 .pu (.on 4 .pu (.on 3 .go (.on 5 .pu (.on 6 .go .nl))))))) follows_mixed (.inb (.thn (.thn (.inb (.inb (.thn (.thn (.inb (.thn .body))))))))) (by kernel_rfl) ?_
  refine .dpu rfl (.n rfl) (P.mov .g2) rfl rfl ?_
  refine .dpu rfl (.n rfl) (P.mov .t1) rfl rfl ?_
  refine .dpu rfl (.n rfl) (P.mov .g7) rfl rfl ?_
  refine .dpu rfl (.n rfl) (P.iac (i := 5) .t2 rfl .g5 runUnderlying41 sizeOf39 rfl rfl) rfl rfl ?_
  refine .dgo rfl (.n rfl) (G.call call36 (.cons .t1 .nil) (S_wide_Of a0 _ rfl) .nil .nil (fun _ _ => rfl) (fun _ _ => rfl) rfl) (.inr fun _ _ _ h => (h.imp (Ls.of (.cons .k1 .nil))).ro Rs.nil) fun _ _ => ?_
  refine .dpu rfl (.n rfl) (P.iac (i := 0) .t2 rfl .t1 runUnderlying39 sizeOf30 rfl rfl) rfl rfl ?_
  refine .dgo rfl (.n rfl) (G.str .t1 .t0 .k0 (.mk (cs' := (purse_Book.cs ⟨⟨(wide_Of a0), (wide_Of a0)⟩, ⟨(wide_Of a0), (wide_Of a0)⟩, ⟨(wide_Of a0), (wide_Of a0)⟩, ⟨(wide_Of a0), (wide_Of a0)⟩, ⟨(wide_Of a0), (wide_Of a0)⟩, ⟨(wide_Of a0), ⟨0, 0, 0, 0⟩⟩, ⟨⟨0, 0, 0, 0⟩, ⟨0, 0, 0, 0⟩⟩, ⟨⟨0, 0, 0, 0⟩, ⟨0, 0, 0, 0⟩⟩⟩)) sizeOf30 rfl rfl rfl rfl)) (.inr fun _ _ _ h => (h.imp (Ls.of (.cons .k1 .nil))).ro Rs.nil) fun _ _ => ?_
  refine .dnil ?_
  refine .inn ?_
  refine .then ?_
  refine .reg rfl ?_
  refine .opp (P.bin (v := N 1) .g0 .k (.addc (by decide))) rfl ?_
  refine .drop .k1 ?_
  refine .opp (P.mov .t0) rfl ?_
  refine .nil ?_
  refine .then ?_
  refine .rd ?_
  refine .seq ?_
  refine .reg rfl ?_
  refine .opp (P.bin (v := Bo true) .g0 .k (BinV.lss.boolc (by decide))) rfl ?_
  refine .nil ?_
  refine .then ?_
  refine .seq ?_
  refine .condT .t0 ?_
  refine .skip ?_
  refine .then ?_
  refine .seq ?_
  refine .block ?_
  refine .seq ?_
  refine .reg rfl ?_
  refine .opp (P.mov .g0) rfl ?_
  refine .opp (P.asg .t0) rfl ?_
  refine .nil ?_
  refine .then ?_
  refine .drawl [blk b1 41 (purse_Book.cs ⟨⟨⟨0, 0, 0, 0⟩, ⟨0, 0, 0, 0⟩⟩, ⟨⟨0, 0, 0, 0⟩, ⟨0, 0, 0, 0⟩⟩, ⟨⟨0, 0, 0, 0⟩, ⟨0, 0, 0, 0⟩⟩, ⟨⟨0, 0, 0, 0⟩, ⟨0, 0, 0, 0⟩⟩, ⟨⟨0, 0, 0, 0⟩, ⟨0, 0, 0, 0⟩⟩, ⟨⟨0, 0, 0, 0⟩, ⟨0, 0, 0, 0⟩⟩, ⟨⟨0, 0, 0, 0⟩, ⟨0, 0, 0, 0⟩⟩, ⟨⟨0, 0, 0, 0⟩, ⟨0, 0, 0, 0⟩⟩⟩)] [] (Ls.of (.cons .k1 .nil)) Rs.nil 7 (.on 0 .pu (.on 1 .pu (.on 2 .pu (.on 4 .pu (.on 3 .go (.on 5 .pu (.on 6 .go .nl))))))) follows_mixed (.inb (.thn (.thn (.inb (.inb (.thn (.thn (.inb (.thn .body))))))))) (by kernel_rfl) ?_
  refine .dpu rfl (.n rfl) (P.mov .g2) rfl rfl ?_
  refine .dpu rfl (.n rfl) (P.mov .t1) rfl rfl ?_
  refine .dpu rfl (.n rfl) (P.mov .g7) rfl rfl ?_
  refine .dpu rfl (.n rfl) (P.iac (i := 5) .t2 rfl .g5 runUnderlying41 sizeOf39 rfl rfl) rfl rfl ?_
  refine .dgo rfl (.n rfl) (G.call call36 (.cons .t1 .nil) (S_wide_Of a0 _ rfl) .nil .nil (fun _ _ => rfl) (fun _ _ => rfl) rfl) (.inr fun _ _ _ h => (h.imp (Ls.of (.cons .k1 .nil))).ro Rs.nil) fun _ _ => ?_
  refine .dpu rfl (.n rfl) (P.iac (i := 1) .t2 rfl .t1 runUnderlying39 sizeOf30 rfl rfl) rfl rfl ?_
  refine .dgo rfl (.n rfl) (G.str .t1 .t0 .k0 (.mk (cs' := (purse_Book.cs ⟨⟨(wide_Of a0), (wide_Of a0)⟩, ⟨(wide_Of a0), (wide_Of a0)⟩, ⟨(wide_Of a0), (wide_Of a0)⟩, ⟨(wide_Of a0), (wide_Of a0)⟩, ⟨(wide_Of a0), (wide_Of a0)⟩, ⟨(wide_Of a0), (wide_Of a0)⟩, ⟨⟨0, 0, 0, 0⟩, ⟨0, 0, 0, 0⟩⟩, ⟨⟨0, 0, 0, 0⟩, ⟨0, 0, 0, 0⟩⟩⟩)) sizeOf30 rfl rfl rfl rfl)) (.inr fun _ _ _ h => (h.imp (Ls.of (.cons .k1 .nil))).ro Rs.nil) fun _ _ => ?_
  refine .dnil ?_
  refine .inn ?_
  refine .then ?_
  refine .reg rfl ?_
  refine .opp (P.bin (v := N 2) .g0 .k (.addc (by decide))) rfl ?_
  refine .drop .k1 ?_
  refine .opp (P.mov .t0) rfl ?_
  refine .nil ?_
  refine .then ?_
  refine .rd ?_
  refine .seq ?_
  refine .reg rfl ?_
  refine .opp (P.bin (v := Bo false) .g0 .k (BinV.lss.boolc (by decide))) rfl ?_
  refine .nil ?_
  refine .then ?_
  refine .seq ?_
  refine .condF .t0 ?_
  refine .exit ?_
  refine .thx ?_
  refine .thx ?_
  refine .inb ?_
  refine .inn ?_
  refine .then ?_
  refine .reg rfl ?_
  refine .opp (P.bin (v := N 6) .g2 .k (.addc (by decide))) rfl ?_
  refine .drop .k3 ?_
  refine .opp (P.mov .t0) rfl ?_
  refine .nil ?_
  refine .then ?_
  refine .rd ?_
  refine .seq ?_
  refine .reg rfl ?_
  refine .opp (P.bin (v := Bo true) .g0 .k (BinV.lss.boolc (by decide))) rfl ?_
  refine .nil ?_
  refine .then ?_
  refine .seq ?_
  refine .condT .t0 ?_
  refine .skip ?_
  refine .then ?_
  refine .seq ?_
  refine .block ?_
  refine .seq ?_
  refine .reg rfl ?_
  refine .opp (P.mov .g0) rfl ?_
  refine .drop .k3 ?_
  refine .opp (P.asg .t0) rfl ?_
  refine .nil ?_
  refine .then ?_
  refine .seq ?_
  refine .reg rfl ?_
  refine .drop .k2 ?_
  refine .opp (P.mov .k) rfl ?_
  refine .nil ?_
  refine .then ?_
  refine .block ?_
  refine .rounds 3 ?_
  refine .rd ?_
  refine .seq ?_
  refine .reg rfl ?_
  refine .opp (P.bin (v := Bo true) .g0 .k (BinV.lss.boolc (by decide))) rfl ?_
  refine .nil ?_
  refine .then ?_
  refine .seq ?_
  refine .condT .t0 ?_
  refine .skip ?_
  refine .then ?_
  refine .seq ?_
  refine .block ?_
  refine .seq ?_
  refine .reg rfl ?_
  refine .opp (P.mov .g0) rfl ?_
  refine .opp (P.asg .t0) rfl ?_
  refine .nil ?_
  refine .then ?_
  refine .drawl [blk b1 41 (purse_Book.cs ⟨⟨⟨0, 0, 0, 0⟩, ⟨0, 0, 0, 0⟩⟩, ⟨⟨0, 0, 0, 0⟩, ⟨0, 0, 0, 0⟩⟩, ⟨⟨0, 0, 0, 0⟩, ⟨0, 0, 0, 0⟩⟩, ⟨⟨0, 0, 0, 0⟩, ⟨0, 0, 0, 0⟩⟩, ⟨⟨0, 0, 0, 0⟩, ⟨0, 0, 0, 0⟩⟩, ⟨⟨0, 0, 0, 0⟩, ⟨0, 0, 0, 0⟩⟩, ⟨⟨0, 0, 0, 0⟩, ⟨0, 0, 0, 0⟩⟩, ⟨⟨0, 0, 0, 0⟩, ⟨0, 0, 0, 0⟩⟩⟩)] [] (Ls.of (.cons .k1 .nil)) Rs.nil 7 (.on 0 .pu (.on 1 .pu (.on 2 .pu (.on 4 .pu (.on 3 .go (.on 5 .pu (.on 6 .go .nl))))))) follows_mixed (.inb (.thn (.thn (.inb (.inb (.thn (.thn (.inb (.thn .body))))))))) (by kernel_rfl) ?_
  refine .dpu rfl (.n rfl) (P.mov .g2) rfl rfl ?_
  refine .dpu rfl (.n rfl) (P.mov .t1) rfl rfl ?_
  refine .dpu rfl (.n rfl) (P.mov .g7) rfl rfl ?_
  refine .dpu rfl (.n rfl) (P.iac (i := 6) .t2 rfl .g5 runUnderlying41 sizeOf39 rfl rfl) rfl rfl ?_
  refine .dgo rfl (.n rfl) (G.call call36 (.cons .t1 .nil) (S_wide_Of a0 _ rfl) .nil .nil (fun _ _ => rfl) (fun _ _ => rfl) rfl) (.inr fun _ _ _ h => (h.imp (Ls.of (.cons .k1 .nil))).ro Rs.nil) fun _ _ => ?_
  refine .dpu rfl (.n rfl) (P.iac (i := 0) .t2 rfl .t1 runUnderlying39 sizeOf30 rfl rfl) rfl rfl ?_
  refine .dgo rfl (.n rfl) (G.str .t1 .t0 .k0 (.mk (cs' := (purse_Book.cs ⟨⟨(wide_Of a0), (wide_Of a0)⟩, ⟨(wide_Of a0), (wide_Of a0)⟩, ⟨(wide_Of a0), (wide_Of a0)⟩, ⟨(wide_Of a0), (wide_Of a0)⟩, ⟨(wide_Of a0), (wide_Of a0)⟩, ⟨(wide_Of a0), (wide_Of a0)⟩, ⟨(wide_Of a0), ⟨0, 0, 0, 0⟩⟩, ⟨⟨0, 0, 0, 0⟩, ⟨0, 0, 0, 0⟩⟩⟩)) sizeOf30 rfl rfl rfl rfl)) (.inr fun _ _ _ h => (h.imp (Ls.of (.cons .k1 .nil))).ro Rs.nil) fun _ _ => ?_
  refine .dnil ?_
  refine .inn ?_
  refine .then ?_
  refine .reg rfl ?_
  refine .opp (P.bin (v := N 1) .g0 .k (.addc (by decide))) rfl ?_
  refine .drop .k1 ?_
  refine .opp (P.mov .t0) rfl ?_
  refine .nil ?_
  refine .then ?_
  refine .rd ?_
  refine .seq ?_
  refine .reg rfl ?_
  refine .opp (P.bin (v := Bo true) .g0 .k (BinV.lss.boolc (by decide))) rfl ?_
  refine .nil ?_
  refine .then ?_
  refine .seq ?_
  refine .condT .t0 ?_
  refine .skip ?_
  refine .then ?_
  refine .seq ?_
  refine .block ?_
  refine .seq ?_
  refine .reg rfl ?_
  refine .opp (P.mov .g0) rfl ?_
  refine .opp (P.asg .t0) rfl ?_
  refine .nil ?_
  refine .then ?_
  refine .drawl [blk b1 41 (purse_Book.cs ⟨⟨⟨0, 0, 0, 0⟩, ⟨0, 0, 0, 0⟩⟩, ⟨⟨0, 0, 0, 0⟩, ⟨0, 0, 0, 0⟩⟩, ⟨⟨0, 0, 0, 0⟩, ⟨0, 0, 0, 0⟩⟩, ⟨⟨0, 0, 0, 0⟩, ⟨0, 0, 0, 0⟩⟩, ⟨⟨0, 0, 0, 0⟩, ⟨0, 0, 0, 0⟩⟩, ⟨⟨0, 0, 0, 0⟩, ⟨0, 0, 0, 0⟩⟩, ⟨⟨0, 0, 0, 0⟩, ⟨0, 0, 0, 0⟩⟩, ⟨⟨0, 0, 0, 0⟩, ⟨0, 0, 0, 0⟩⟩⟩)] [] (Ls.of (.cons .k1 .nil)) Rs.nil 7 (.on 0 .pu (.on 1 .pu (.on 2 .pu (.on 4 .pu (.on 3 .go (.on 5 .pu (.on 6 .go .nl))))))) follows_mixed (.inb (.thn (.thn (.inb (.inb (.thn (.thn (.inb (.thn .body))))))))) (by kernel_rfl) ?_
  refine .dpu rfl (.n rfl) (P.mov .g2) rfl rfl ?_
  refine .dpu rfl (.n rfl) (P.mov .t1) rfl rfl ?_
  refine .dpu rfl (.n rfl) (P.mov .g7) rfl rfl ?_
  refine .dpu rfl (.n rfl) (P.iac (i := 6) .t2 rfl .g5 runUnderlying41 sizeOf39 rfl rfl) rfl rfl ?_
  refine .dgo rfl (.n rfl) (G.call call36 (.cons .t1 .nil) (S_wide_Of a0 _ rfl) .nil .nil (fun _ _ => rfl) (fun _ _ => rfl) rfl) (.inr fun _ _ _ h => (h.imp (Ls.of (.cons .k1 .nil))).ro Rs.nil) fun _ _ => ?_
  refine .dpu rfl (.n rfl) (P.iac (i := 1) .t2 rfl .t1 runUnderlying39 sizeOf30 rfl rfl) rfl rfl ?_
  refine .dgo rfl (.n rfl) (G.str .t1 .t0 .k0 (.mk (cs' := (purse_Book.cs ⟨⟨(wide_Of a0), (wide_Of a0)⟩, ⟨(wide_Of a0), (wide_Of a0)⟩, ⟨(wide_Of a0), (wide_Of a0)⟩, ⟨(wide_Of a0), (wide_Of a0)⟩, ⟨(wide_Of a0), (wide_Of a0)⟩, ⟨(wide_Of a0), (wide_Of a0)⟩, ⟨(wide_Of a0), (wide_Of a0)⟩, ⟨⟨0, 0, 0, 0⟩, ⟨0, 0, 0, 0⟩⟩⟩)) sizeOf30 rfl rfl rfl rfl)) (.inr fun _ _ _ h => (h.imp (Ls.of (.cons .k1 .nil))).ro Rs.nil) fun _ _ => ?_
  refine .dnil ?_
  refine .inn ?_
  refine .then ?_
  refine .reg rfl ?_
  refine .opp (P.bin (v := N 2) .g0 .k (.addc (by decide))) rfl ?_
  refine .drop .k1 ?_
  refine .opp (P.mov .t0) rfl ?_
  refine .nil ?_
  refine .then ?_
  refine .rd ?_
  refine .seq ?_
  refine .reg rfl ?_
  refine .opp (P.bin (v := Bo false) .g0 .k (BinV.lss.boolc (by decide))) rfl ?_
  refine .nil ?_
  refine .then ?_
  refine .seq ?_
  refine .condF .t0 ?_
  refine .exit ?_
  refine .thx ?_
  refine .thx ?_
  refine .inb ?_
  refine .inn ?_
  refine .then ?_
  refine .reg rfl ?_
  refine .opp (P.bin (v := N 7) .g2 .k (.addc (by decide))) rfl ?_
  refine .drop .k3 ?_
  refine .opp (P.mov .t0) rfl ?_
  refine .nil ?_
  refine .then ?_
  refine .rd ?_
  refine .seq ?_
  refine .reg rfl ?_
  refine .opp (P.bin (v := Bo true) .g0 .k (BinV.lss.boolc (by decide))) rfl ?_
  refine .nil ?_
  refine .then ?_
  refine .seq ?_
  refine .condT .t0 ?_
  refine .skip ?_
  refine .then ?_
  refine .seq ?_
  refine .block ?_
  refine .seq ?_
  refine .reg rfl ?_
  refine .opp (P.mov .g0) rfl ?_
  refine .drop .k3 ?_
  refine .opp (P.asg .t0) rfl ?_
  refine .nil ?_
  refine .then ?_
  refine .seq ?_
  refine .reg rfl ?_
  refine .drop .k2 ?_
  refine .opp (P.mov .k) rfl ?_
  refine .nil ?_
  refine .then ?_
  refine .block ?_
  refine .rounds 3 ?_
  refine .rd ?_
  refine .seq ?_
  refine .reg rfl ?_
  refine .opp (P.bin (v := Bo true) .g0 .k (BinV.lss.boolc (by decide))) rfl ?_
  refine .nil ?_
  refine .then ?_
  refine .seq ?_
  refine .condT .t0 ?_
  refine .skip ?_
  refine .then ?_
  refine .seq ?_
  refine .block ?_
  refine .seq ?_
  refine .reg rfl ?_
  refine .opp (P.mov .g0) rfl ?_
  refine .opp (P.asg .t0) rfl ?_
  refine .nil ?_
  refine .then ?_
  refine .drawl [blk b1 41 (purse_Book.cs ⟨⟨⟨0, 0, 0, 0⟩, ⟨0, 0, 0, 0⟩⟩, ⟨⟨0, 0, 0, 0⟩, ⟨0, 0, 0, 0⟩⟩, ⟨⟨0, 0, 0, 0⟩, ⟨0, 0, 0, 0⟩⟩, ⟨⟨0, 0, 0, 0⟩, ⟨0, 0, 0, 0⟩⟩, ⟨⟨0, 0, 0, 0⟩, ⟨0, 0, 0, 0⟩⟩, ⟨⟨0, 0, 0, 0⟩, ⟨0, 0, 0, 0⟩⟩, ⟨⟨0, 0, 0, 0⟩, ⟨0, 0, 0, 0⟩⟩, ⟨⟨0, 0, 0, 0⟩, ⟨0, 0, 0, 0⟩⟩⟩)] [] (Ls.of (.cons .k1 .nil)) Rs.nil 7 (.on 0 .pu (.on 1 .pu (.on 2 .pu (.on 4 .pu (.on 3 .go (.on 5 .pu (.on 6 .go .nl))))))) follows_mixed (.inb (.thn (.thn (.inb (.inb (.thn (.thn (.inb (.thn .body))))))))) (by kernel_rfl) ?_
  refine .dpu rfl (.n rfl) (P.mov .g2) rfl rfl ?_
  refine .dpu rfl (.n rfl) (P.mov .t1) rfl rfl ?_
  refine .dpu rfl (.n rfl) (P.mov .g7) rfl rfl ?_
  refine .dpu rfl (.n rfl) (P.iac (i := 7) .t2 rfl .g5 runUnderlying41 sizeOf39 rfl rfl) rfl rfl ?_
  refine .dgo rfl (.n rfl) (G.call call36 (.cons .t1 .nil) (S_wide_Of a0 _ rfl) .nil .nil (fun _ _ => rfl) (fun _ _ => rfl) rfl) (.inr fun _ _ _ h => (h.imp (Ls.of (.cons .k1 .nil))).ro Rs.nil) fun _ _ => ?_
  refine .dpu rfl (.n rfl) (P.iac (i := 0) .t2 rfl .t1 runUnderlying39 sizeOf30 rfl rfl) rfl rfl ?_
  refine .dgo rfl (.n rfl) (G.str .t1 .t0 .k0 (.mk (cs' := (purse_Book.cs ⟨⟨(wide_Of a0), (wide_Of a0)⟩, ⟨(wide_Of a0), (wide_Of a0)⟩, ⟨(wide_Of a0), (wide_Of a0)⟩, ⟨(wide_Of a0), (wide_Of a0)⟩, ⟨(wide_Of a0), (wide_Of a0)⟩, ⟨(wide_Of a0), (wide_Of a0)⟩, ⟨(wide_Of a0), (wide_Of a0)⟩, ⟨(wide_Of a0), ⟨0, 0, 0, 0⟩⟩⟩)) sizeOf30 rfl rfl rfl rfl)) (.inr fun _ _ _ h => (h.imp (Ls.of (.cons .k1 .nil))).ro Rs.nil) fun _ _ => ?_
  refine .dnil ?_
  refine .inn ?_
  refine .then ?_
  refine .reg rfl ?_
  refine .opp (P.bin (v := N 1) .g0 .k (.addc (by decide))) rfl ?_
  refine .drop .k1 ?_
  refine .opp (P.mov .t0) rfl ?_
  refine .nil ?_
  refine .then ?_
  refine .rd ?_
  refine .seq ?_
  refine .reg rfl ?_
  refine .opp (P.bin (v := Bo true) .g0 .k (BinV.lss.boolc (by decide))) rfl ?_
  refine .nil ?_
  refine .then ?_
  refine .seq ?_
  refine .condT .t0 ?_
  refine .skip ?_
  refine .then ?_
  refine .seq ?_
  refine .block ?_
  refine .seq ?_
  refine .reg rfl ?_
  refine .opp (P.mov .g0) rfl ?_
  refine .opp (P.asg .t0) rfl ?_
  refine .nil ?_
  refine .then ?_
  refine .drawl [blk b1 41 (purse_Book.cs ⟨⟨⟨0, 0, 0, 0⟩, ⟨0, 0, 0, 0⟩⟩, ⟨⟨0, 0, 0, 0⟩, ⟨0, 0, 0, 0⟩⟩, ⟨⟨0, 0, 0, 0⟩, ⟨0, 0, 0, 0⟩⟩, ⟨⟨0, 0, 0, 0⟩, ⟨0, 0, 0, 0⟩⟩, ⟨⟨0, 0, 0, 0⟩, ⟨0, 0, 0, 0⟩⟩, ⟨⟨0, 0, 0, 0⟩, ⟨0, 0, 0, 0⟩⟩, ⟨⟨0, 0, 0, 0⟩, ⟨0, 0, 0, 0⟩⟩, ⟨⟨0, 0, 0, 0⟩, ⟨0, 0, 0, 0⟩⟩⟩)] [] (Ls.of (.cons .k1 .nil)) Rs.nil 7 (.on 0 .pu (.on 1 .pu (.on 2 .pu (.on 4 .pu (.on 3 .go (.on 5 .pu (.on 6 .go .nl))))))) follows_mixed (.inb (.thn (.thn (.inb (.inb (.thn (.thn (.inb (.thn .body))))))))) (by kernel_rfl) ?_
  refine .dpu rfl (.n rfl) (P.mov .g2) rfl rfl ?_
  refine .dpu rfl (.n rfl) (P.mov .t1) rfl rfl ?_
  refine .dpu rfl (.n rfl) (P.mov .g7) rfl rfl ?_
  refine .dpu rfl (.n rfl) (P.iac (i := 7) .t2 rfl .g5 runUnderlying41 sizeOf39 rfl rfl) rfl rfl ?_
  refine .dgo rfl (.n rfl) (G.call call36 (.cons .t1 .nil) (S_wide_Of a0 _ rfl) .nil .nil (fun _ _ => rfl) (fun _ _ => rfl) rfl) (.inr fun _ _ _ h => (h.imp (Ls.of (.cons .k1 .nil))).ro Rs.nil) fun _ _ => ?_
  refine .dpu rfl (.n rfl) (P.iac (i := 1) .t2 rfl .t1 runUnderlying39 sizeOf30 rfl rfl) rfl rfl ?_
  refine .dgo rfl (.n rfl) (G.str .t1 .t0 .k0 (.mk (cs' := (purse_Book.cs ⟨⟨(wide_Of a0), (wide_Of a0)⟩, ⟨(wide_Of a0), (wide_Of a0)⟩, ⟨(wide_Of a0), (wide_Of a0)⟩, ⟨(wide_Of a0), (wide_Of a0)⟩, ⟨(wide_Of a0), (wide_Of a0)⟩, ⟨(wide_Of a0), (wide_Of a0)⟩, ⟨(wide_Of a0), (wide_Of a0)⟩, ⟨(wide_Of a0), (wide_Of a0)⟩⟩)) sizeOf30 rfl rfl rfl rfl)) (.inr fun _ _ _ h => (h.imp (Ls.of (.cons .k1 .nil))).ro Rs.nil) fun _ _ => ?_
  refine .dnil ?_
  refine .inn ?_
  refine .then ?_
  refine .reg rfl ?_
  refine .opp (P.bin (v := N 2) .g0 .k (.addc (by decide))) rfl ?_
  refine .drop .k1 ?_
  refine .opp (P.mov .t0) rfl ?_
  refine .nil ?_
  refine .then ?_
  refine .rd ?_
  refine .seq ?_
  refine .reg rfl ?_
  refine .opp (P.bin (v := Bo false) .g0 .k (BinV.lss.boolc (by decide))) rfl ?_
  refine .nil ?_
  refine .then ?_
  refine .seq ?_
  refine .condF .t0 ?_
  refine .exit ?_
  refine .thx ?_
  refine .thx ?_
  refine .inb ?_
  refine .inn ?_
  refine .then ?_
  refine .reg rfl ?_
  refine .opp (P.bin (v := N 8) .g2 .k (.addc (by decide))) rfl ?_
  refine .drop .k3 ?_
  refine .opp (P.mov .t0) rfl ?_
  refine .nil ?_
  refine .then ?_
  refine .rd ?_
  refine .seq ?_
  refine .reg rfl ?_
  refine .opp (P.bin (v := Bo false) .g0 .k (BinV.lss.boolc (by decide))) rfl ?_
  refine .nil ?_
  refine .then ?_
  refine .seq ?_
  refine .condF .t0 ?_
  refine .exit ?_
  refine .thx ?_
  refine .thx ?_
  refine .inb ?_
  refine .then ?_
  refine .seq ?_
  refine .reg rfl ?_
  refine .op (V.ld (v := Ag (purse_Book.cs ⟨⟨(wide_Of a0), (wide_Of a0)⟩, ⟨(wide_Of a0), (wide_Of a0)⟩, ⟨(wide_Of a0), (wide_Of a0)⟩, ⟨(wide_Of a0), (wide_Of a0)⟩, ⟨(wide_Of a0), (wide_Of a0)⟩, ⟨(wide_Of a0), (wide_Of a0)⟩, ⟨(wide_Of a0), (wide_Of a0)⟩, ⟨(wide_Of a0), (wide_Of a0)⟩⟩)) .t3 .k0 (.agg isAgg41 sizeOf41 rfl rfl)) rfl ?_
  refine .opg (G.str .t0 .g3 .k1 (.mk (cs' := (purse_Book.cs ⟨⟨(wide_Of a0), (wide_Of a0)⟩, ⟨(wide_Of a0), (wide_Of a0)⟩, ⟨(wide_Of a0), (wide_Of a0)⟩, ⟨(wide_Of a0), (wide_Of a0)⟩, ⟨(wide_Of a0), (wide_Of a0)⟩, ⟨(wide_Of a0), (wide_Of a0)⟩, ⟨(wide_Of a0), (wide_Of a0)⟩, ⟨(wide_Of a0), (wide_Of a0)⟩⟩)) sizeOf41 rfl rfl rfl rfl)) rfl fun _ _ => ?_
  refine .nil ?_
  refine .then ?_
  refine .ret ?_
  subst h
  exact .finw () (.r1 rfl (.cell .g3 .k0 (.agg isAgg41 sizeOf41 rfl rfl))) trivial (Ls.of .nil) .nil
attribute [irreducible] purse_Even
end Go.Sl
