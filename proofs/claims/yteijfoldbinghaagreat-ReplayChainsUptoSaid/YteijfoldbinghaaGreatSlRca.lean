/- Walked code of the program, its pure functions and their contracts. -/
import Derived.Test.YteijfoldbinghaaGreatProg
import Derived.Test.YteijfoldbinghaaGreatSlDel
set_option linter.unusedVariables false
set_option linter.unusedSimpArgs false
namespace Go.Sl
open Go.Proofs Go.Proofs.Tryz
theorem follows_mixed : Tryz.prog.follows .mixedOrders = true := by kernel_rfl
abbrev mustCh (e : Int) : List PanicEntry := [{ v := .iface 111 (Ag [N e]), recovered := false }]
structure api_Wide where
  a0 : UInt64
  a1 : UInt64
  a2 : UInt64
  a3 : UInt64
  deriving DecidableEq
def api_Wide.cs (x : api_Wide) : List Value := [U x.a0, U x.a1, U x.a2, U x.a3]
def api_Wide.list (x : api_Wide) : List UInt64 := [x.a0, x.a1, x.a2, x.a3]
def api_Wide.set (x : api_Wide) (k : Nat) (v : UInt64) : api_Wide := ⟨if k = 0 then v else x.a0, if k = 1 then v else x.a1, if k = 2 then v else x.a2, if k = 3 then v else x.a3⟩
def api_Wide.z : api_Wide := ⟨0, 0, 0, 0⟩
structure api_Inv where
  User : Int
  Root : ByteArray
  Router : Int
  Send : Int
  Recv : Int
  To : Int
  Id : ByteArray
  deriving DecidableEq
def api_Inv.cs (x : api_Inv) : List Value := [N x.User, .string x.Root, N x.Router, N x.Send, N x.Recv, N x.To, .string x.Id]
def api_Inv.z : api_Inv := ⟨0, ⟨#[]⟩, 0, 0, 0, 0, ⟨#[]⟩⟩
structure api_Var where
  Amount : api_Wide
  Expiry : Int
  deriving DecidableEq
def api_Var.cs (x : api_Var) : List Value := [U x.Amount.a0, U x.Amount.a1, U x.Amount.a2, U x.Amount.a3, N x.Expiry]
def api_Var.z : api_Var := ⟨api_Wide.z, 0⟩
structure api_Tx where
  From : Int
  Nonce : Int
  Kind : Int
  Asset : Int
  Amount : api_Wide
  Inv : api_Inv
  Var : api_Var
  Fee : api_Wide
  Sig : ByteArray
  deriving DecidableEq
def api_Tx.cs (x : api_Tx) : List Value := [N x.From, N x.Nonce, N x.Kind, N x.Asset, U x.Amount.a0, U x.Amount.a1, U x.Amount.a2, U x.Amount.a3, N x.Inv.User, .string x.Inv.Root, N x.Inv.Router, N x.Inv.Send, N x.Inv.Recv, N x.Inv.To, .string x.Inv.Id, U x.Var.Amount.a0, U x.Var.Amount.a1, U x.Var.Amount.a2, U x.Var.Amount.a3, N x.Var.Expiry, U x.Fee.a0, U x.Fee.a1, U x.Fee.a2, U x.Fee.a3, .string x.Sig]
def api_Tx.z : api_Tx := ⟨0, 0, 0, 0, api_Wide.z, api_Inv.z, api_Var.z, api_Wide.z, ⟨#[]⟩⟩
structure api_Event where
  Time : Int
  Code : Int
  Tx : api_Tx
  deriving DecidableEq
def api_Event.cs (x : api_Event) : List Value := [N x.Time, N x.Code, N x.Tx.From, N x.Tx.Nonce, N x.Tx.Kind, N x.Tx.Asset, U x.Tx.Amount.a0, U x.Tx.Amount.a1, U x.Tx.Amount.a2, U x.Tx.Amount.a3, N x.Tx.Inv.User, .string x.Tx.Inv.Root, N x.Tx.Inv.Router, N x.Tx.Inv.Send, N x.Tx.Inv.Recv, N x.Tx.Inv.To, .string x.Tx.Inv.Id, U x.Tx.Var.Amount.a0, U x.Tx.Var.Amount.a1, U x.Tx.Var.Amount.a2, U x.Tx.Var.Amount.a3, N x.Tx.Var.Expiry, U x.Tx.Fee.a0, U x.Tx.Fee.a1, U x.Tx.Fee.a2, U x.Tx.Fee.a3, .string x.Tx.Sig]
def api_Event.z : api_Event := ⟨0, 0, api_Tx.z⟩
structure A2_api_Wide where
  a0 : api_Wide
  a1 : api_Wide
  deriving DecidableEq
def A2_api_Wide.cs (x : A2_api_Wide) : List Value := [U x.a0.a0, U x.a0.a1, U x.a0.a2, U x.a0.a3, U x.a1.a0, U x.a1.a1, U x.a1.a2, U x.a1.a3]
def A2_api_Wide.list (x : A2_api_Wide) : List api_Wide := [x.a0, x.a1]
def A2_api_Wide.set (x : A2_api_Wide) (k : Nat) (v : api_Wide) : A2_api_Wide := ⟨if k = 0 then v else x.a0, if k = 1 then v else x.a1⟩
def A2_api_Wide.z : A2_api_Wide := ⟨api_Wide.z, api_Wide.z⟩
structure purse_Book where
  a0 : A2_api_Wide
  a1 : A2_api_Wide
  a2 : A2_api_Wide
  a3 : A2_api_Wide
  a4 : A2_api_Wide
  a5 : A2_api_Wide
  a6 : A2_api_Wide
  a7 : A2_api_Wide
  deriving DecidableEq
def purse_Book.cs (x : purse_Book) : List Value := [U x.a0.a0.a0, U x.a0.a0.a1, U x.a0.a0.a2, U x.a0.a0.a3, U x.a0.a1.a0, U x.a0.a1.a1, U x.a0.a1.a2, U x.a0.a1.a3, U x.a1.a0.a0, U x.a1.a0.a1, U x.a1.a0.a2, U x.a1.a0.a3, U x.a1.a1.a0, U x.a1.a1.a1, U x.a1.a1.a2, U x.a1.a1.a3, U x.a2.a0.a0, U x.a2.a0.a1, U x.a2.a0.a2, U x.a2.a0.a3, U x.a2.a1.a0, U x.a2.a1.a1, U x.a2.a1.a2, U x.a2.a1.a3, U x.a3.a0.a0, U x.a3.a0.a1, U x.a3.a0.a2, U x.a3.a0.a3, U x.a3.a1.a0, U x.a3.a1.a1, U x.a3.a1.a2, U x.a3.a1.a3, U x.a4.a0.a0, U x.a4.a0.a1, U x.a4.a0.a2, U x.a4.a0.a3, U x.a4.a1.a0, U x.a4.a1.a1, U x.a4.a1.a2, U x.a4.a1.a3, U x.a5.a0.a0, U x.a5.a0.a1, U x.a5.a0.a2, U x.a5.a0.a3, U x.a5.a1.a0, U x.a5.a1.a1, U x.a5.a1.a2, U x.a5.a1.a3, U x.a6.a0.a0, U x.a6.a0.a1, U x.a6.a0.a2, U x.a6.a0.a3, U x.a6.a1.a0, U x.a6.a1.a1, U x.a6.a1.a2, U x.a6.a1.a3, U x.a7.a0.a0, U x.a7.a0.a1, U x.a7.a0.a2, U x.a7.a0.a3, U x.a7.a1.a0, U x.a7.a1.a1, U x.a7.a1.a2, U x.a7.a1.a3]
def purse_Book.list (x : purse_Book) : List A2_api_Wide := [x.a0, x.a1, x.a2, x.a3, x.a4, x.a5, x.a6, x.a7]
def purse_Book.set (x : purse_Book) (k : Nat) (v : A2_api_Wide) : purse_Book := ⟨if k = 0 then v else x.a0, if k = 1 then v else x.a1, if k = 2 then v else x.a2, if k = 3 then v else x.a3, if k = 4 then v else x.a4, if k = 5 then v else x.a5, if k = 6 then v else x.a6, if k = 7 then v else x.a7⟩
def purse_Book.z : purse_Book := ⟨A2_api_Wide.z, A2_api_Wide.z, A2_api_Wide.z, A2_api_Wide.z, A2_api_Wide.z, A2_api_Wide.z, A2_api_Wide.z, A2_api_Wide.z⟩
structure A8_i64 where
  a0 : Int
  a1 : Int
  a2 : Int
  a3 : Int
  a4 : Int
  a5 : Int
  a6 : Int
  a7 : Int
  deriving DecidableEq
def A8_i64.cs (x : A8_i64) : List Value := [N x.a0, N x.a1, N x.a2, N x.a3, N x.a4, N x.a5, N x.a6, N x.a7]
def A8_i64.list (x : A8_i64) : List Int := [x.a0, x.a1, x.a2, x.a3, x.a4, x.a5, x.a6, x.a7]
def A8_i64.set (x : A8_i64) (k : Nat) (v : Int) : A8_i64 := ⟨if k = 0 then v else x.a0, if k = 1 then v else x.a1, if k = 2 then v else x.a2, if k = 3 then v else x.a3, if k = 4 then v else x.a4, if k = 5 then v else x.a5, if k = 6 then v else x.a6, if k = 7 then v else x.a7⟩
def A8_i64.z : A8_i64 := ⟨0, 0, 0, 0, 0, 0, 0, 0⟩
structure escrow_Lock where
  Key : ByteArray
  Digest : ByteArray
  Status : Int
  deriving DecidableEq
def escrow_Lock.cs (x : escrow_Lock) : List Value := [.string x.Key, .string x.Digest, N x.Status]
def escrow_Lock.z : escrow_Lock := ⟨⟨#[]⟩, ⟨#[]⟩, 0⟩
structure escrow_State where
  Side : Int
  Time : Int
  Purse : purse_Book
  Vault : purse_Book
  Nonces : A8_i64
  Held : A2_api_Wide
  Burnt : api_Wide
  Locks : List escrow_Lock
  deriving DecidableEq
def escrow_State.cs (x : escrow_State) (z0 : Value) : List Value := [N x.Side, N x.Time, U x.Purse.a0.a0.a0, U x.Purse.a0.a0.a1, U x.Purse.a0.a0.a2, U x.Purse.a0.a0.a3, U x.Purse.a0.a1.a0, U x.Purse.a0.a1.a1, U x.Purse.a0.a1.a2, U x.Purse.a0.a1.a3, U x.Purse.a1.a0.a0, U x.Purse.a1.a0.a1, U x.Purse.a1.a0.a2, U x.Purse.a1.a0.a3, U x.Purse.a1.a1.a0, U x.Purse.a1.a1.a1, U x.Purse.a1.a1.a2, U x.Purse.a1.a1.a3, U x.Purse.a2.a0.a0, U x.Purse.a2.a0.a1, U x.Purse.a2.a0.a2, U x.Purse.a2.a0.a3, U x.Purse.a2.a1.a0, U x.Purse.a2.a1.a1, U x.Purse.a2.a1.a2, U x.Purse.a2.a1.a3, U x.Purse.a3.a0.a0, U x.Purse.a3.a0.a1, U x.Purse.a3.a0.a2, U x.Purse.a3.a0.a3, U x.Purse.a3.a1.a0, U x.Purse.a3.a1.a1, U x.Purse.a3.a1.a2, U x.Purse.a3.a1.a3, U x.Purse.a4.a0.a0, U x.Purse.a4.a0.a1, U x.Purse.a4.a0.a2, U x.Purse.a4.a0.a3, U x.Purse.a4.a1.a0, U x.Purse.a4.a1.a1, U x.Purse.a4.a1.a2, U x.Purse.a4.a1.a3, U x.Purse.a5.a0.a0, U x.Purse.a5.a0.a1, U x.Purse.a5.a0.a2, U x.Purse.a5.a0.a3, U x.Purse.a5.a1.a0, U x.Purse.a5.a1.a1, U x.Purse.a5.a1.a2, U x.Purse.a5.a1.a3, U x.Purse.a6.a0.a0, U x.Purse.a6.a0.a1, U x.Purse.a6.a0.a2, U x.Purse.a6.a0.a3, U x.Purse.a6.a1.a0, U x.Purse.a6.a1.a1, U x.Purse.a6.a1.a2, U x.Purse.a6.a1.a3, U x.Purse.a7.a0.a0, U x.Purse.a7.a0.a1, U x.Purse.a7.a0.a2, U x.Purse.a7.a0.a3, U x.Purse.a7.a1.a0, U x.Purse.a7.a1.a1, U x.Purse.a7.a1.a2, U x.Purse.a7.a1.a3, U x.Vault.a0.a0.a0, U x.Vault.a0.a0.a1, U x.Vault.a0.a0.a2, U x.Vault.a0.a0.a3, U x.Vault.a0.a1.a0, U x.Vault.a0.a1.a1, U x.Vault.a0.a1.a2, U x.Vault.a0.a1.a3, U x.Vault.a1.a0.a0, U x.Vault.a1.a0.a1, U x.Vault.a1.a0.a2, U x.Vault.a1.a0.a3, U x.Vault.a1.a1.a0, U x.Vault.a1.a1.a1, U x.Vault.a1.a1.a2, U x.Vault.a1.a1.a3, U x.Vault.a2.a0.a0, U x.Vault.a2.a0.a1, U x.Vault.a2.a0.a2, U x.Vault.a2.a0.a3, U x.Vault.a2.a1.a0, U x.Vault.a2.a1.a1, U x.Vault.a2.a1.a2, U x.Vault.a2.a1.a3, U x.Vault.a3.a0.a0, U x.Vault.a3.a0.a1, U x.Vault.a3.a0.a2, U x.Vault.a3.a0.a3, U x.Vault.a3.a1.a0, U x.Vault.a3.a1.a1, U x.Vault.a3.a1.a2, U x.Vault.a3.a1.a3, U x.Vault.a4.a0.a0, U x.Vault.a4.a0.a1, U x.Vault.a4.a0.a2, U x.Vault.a4.a0.a3, U x.Vault.a4.a1.a0, U x.Vault.a4.a1.a1, U x.Vault.a4.a1.a2, U x.Vault.a4.a1.a3, U x.Vault.a5.a0.a0, U x.Vault.a5.a0.a1, U x.Vault.a5.a0.a2, U x.Vault.a5.a0.a3, U x.Vault.a5.a1.a0, U x.Vault.a5.a1.a1, U x.Vault.a5.a1.a2, U x.Vault.a5.a1.a3, U x.Vault.a6.a0.a0, U x.Vault.a6.a0.a1, U x.Vault.a6.a0.a2, U x.Vault.a6.a0.a3, U x.Vault.a6.a1.a0, U x.Vault.a6.a1.a1, U x.Vault.a6.a1.a2, U x.Vault.a6.a1.a3, U x.Vault.a7.a0.a0, U x.Vault.a7.a0.a1, U x.Vault.a7.a0.a2, U x.Vault.a7.a0.a3, U x.Vault.a7.a1.a0, U x.Vault.a7.a1.a1, U x.Vault.a7.a1.a2, U x.Vault.a7.a1.a3, N x.Nonces.a0, N x.Nonces.a1, N x.Nonces.a2, N x.Nonces.a3, N x.Nonces.a4, N x.Nonces.a5, N x.Nonces.a6, N x.Nonces.a7, U x.Held.a0.a0, U x.Held.a0.a1, U x.Held.a0.a2, U x.Held.a0.a3, U x.Held.a1.a0, U x.Held.a1.a1, U x.Held.a1.a2, U x.Held.a1.a3, U x.Burnt.a0, U x.Burnt.a1, U x.Burnt.a2, U x.Burnt.a3, z0]
def escrow_State.g (x : escrow_State) (z : Value) : Asn := rows 3 z (x.Locks.map escrow_Lock.cs)
def escrow_State.z : escrow_State := ⟨0, 0, purse_Book.z, purse_Book.z, A8_i64.z, A2_api_Wide.z, api_Wide.z, []⟩
theorem fa_32_0 : FaV Tryz.prog 32 0 0 := .mk runUnderlying32 rfl sizeOf3 rfl rfl
theorem fa_32_1 : FaV Tryz.prog 32 1 1 := .mk runUnderlying32 rfl sizeOf9 rfl rfl
theorem fa_32_2 : FaV Tryz.prog 32 2 2 := .mk runUnderlying32 rfl sizeOf3 rfl rfl
theorem fa_32_3 : FaV Tryz.prog 32 3 3 := .mk runUnderlying32 rfl sizeOf3 rfl rfl
theorem fa_32_4 : FaV Tryz.prog 32 4 4 := .mk runUnderlying32 rfl sizeOf3 rfl rfl
theorem fa_32_5 : FaV Tryz.prog 32 5 5 := .mk runUnderlying32 rfl sizeOf3 rfl rfl
theorem fa_32_6 : FaV Tryz.prog 32 6 6 := .mk runUnderlying32 rfl sizeOf9 rfl rfl
theorem fa_34_0 : FaV Tryz.prog 34 0 0 := .mk runUnderlying34 rfl sizeOf30 rfl rfl
theorem fa_34_1 : FaV Tryz.prog 34 1 4 := .mk runUnderlying34 rfl sizeOf3 rfl rfl
theorem fa_36_0 : FaV Tryz.prog 36 0 0 := .mk runUnderlying36 rfl sizeOf3 rfl rfl
theorem fa_36_1 : FaV Tryz.prog 36 1 1 := .mk runUnderlying36 rfl sizeOf3 rfl rfl
theorem fa_36_2 : FaV Tryz.prog 36 2 2 := .mk runUnderlying36 rfl sizeOf3 rfl rfl
theorem fa_36_3 : FaV Tryz.prog 36 3 3 := .mk runUnderlying36 rfl sizeOf3 rfl rfl
theorem fa_36_4 : FaV Tryz.prog 36 4 4 := .mk runUnderlying36 rfl sizeOf30 rfl rfl
theorem fa_36_5 : FaV Tryz.prog 36 5 8 := .mk runUnderlying36 rfl sizeOf32 rfl rfl
theorem fa_36_6 : FaV Tryz.prog 36 6 15 := .mk runUnderlying36 rfl sizeOf34 rfl rfl
theorem fa_36_8 : FaV Tryz.prog 36 8 24 := .mk runUnderlying36 rfl sizeOf9 rfl rfl
theorem fa_45_1 : FaV Tryz.prog 45 1 1 := .mk runUnderlying45 rfl sizeOf3 rfl rfl
theorem fa_45_2 : FaV Tryz.prog 45 2 2 := .mk runUnderlying45 rfl sizeOf41 rfl rfl
theorem fa_45_4 : FaV Tryz.prog 45 4 130 := .mk runUnderlying45 rfl sizeOf42 rfl rfl
theorem fa_45_7 : FaV Tryz.prog 45 7 150 := .mk runUnderlying45 rfl sizeOf43 rfl rfl
theorem fa_70_0 : FaV Tryz.prog 70 0 0 := .mk runUnderlying70 rfl sizeOf3 rfl rfl
theorem fa_70_2 : FaV Tryz.prog 70 2 2 := .mk runUnderlying70 rfl sizeOf36 rfl rfl
theorem fn_53 : Extern.findNext f53 = none := by kernel_rfl
theorem find_53 : Extern.find f53 = some sub64Entry := by kernel_rfl
theorem pl_45 : ∀ w, ((#[{ name := "Side", type := 3, offset := 0, embedded := false, tag := "", pkgPath := "", byteOffset := 0 }, { name := "Time", type := 3, offset := 1, embedded := false, tag := "", pkgPath := "", byteOffset := 8 }, { name := "Purse", type := 41, offset := 2, embedded := false, tag := "", pkgPath := "", byteOffset := 16 }, { name := "Vault", type := 41, offset := 66, embedded := false, tag := "", pkgPath := "", byteOffset := 528 }, { name := "Nonces", type := 42, offset := 130, embedded := false, tag := "", pkgPath := "", byteOffset := 1040 }, { name := "Held", type := 39, offset := 138, embedded := false, tag := "", pkgPath := "", byteOffset := 1104 }, { name := "Burnt", type := 30, offset := 146, embedded := false, tag := "", pkgPath := "", byteOffset := 1168 }, { name := "Locks", type := 43, offset := 150, embedded := false, tag := "", pkgPath := "", byteOffset := 1200 }] : Array Field).mapM fun f => do pure (f.offset, ← sizeOf f.type) : Sem (Array (Nat × Nat))).run Tryz.prog w = .ok #[(0, 1), (1, 1), (2, 64), (66, 64), (130, 8), (138, 8), (146, 4), (150, 1)] w := fun w => by simp [sizeOf3, sizeOf30, sizeOf39, sizeOf41, sizeOf42, sizeOf43]
theorem one_76 (x : escrow_Lock) : oneAll (escrow_Lock.cs x) = true := rfl
theorem onez_45 (x : escrow_State) {z0 : Value} (hz0 : z0.oneCell' = true) : oneAll (escrow_State.cs x z0) = true := by
  simp only [oneAll, escrow_State.cs, List.all_cons, List.all_nil, hz0]
  rfl
theorem eqv_30 (d : Nat) (x y : api_Wide) : EqV Tryz.prog (d + 2) 30 (Ag x.cs) (Ag y.cs) (decide (x = y)) :=
  EqV.cast (.array (by kernel_rfl) sizeOf28 (.cons (.one isAgg28 rfl) (.one isAgg28 rfl) (EqV.u (by kernel_rfl)) (.cons (.one isAgg28 rfl) (.one isAgg28 rfl) (EqV.u (by kernel_rfl)) (.cons (.one isAgg28 rfl) (.one isAgg28 rfl) (EqV.u (by kernel_rfl)) (.cons (.one isAgg28 rfl) (.one isAgg28 rfl) (EqV.u (by kernel_rfl)) .nil))))) (by cases x; cases y; rw [Bool.eq_iff_iff]; simp [api_Wide.mk.injEq, and_assoc])
theorem eq_30_eql (x y : api_Wide) : BinV Tryz.prog .eql 30 (Ag x.cs) (Ag y.cs) (Bo (decide (x = y))) := .eqv (by kernel_rfl) (eqv_30 9998 x y)
theorem eq_30_neq (x y : api_Wide) : BinV Tryz.prog .neq 30 (Ag x.cs) (Ag y.cs) (Bo (decide (x ≠ y))) := by
  have := BinV.neqv (P := Tryz.prog) (by kernel_rfl) (eqv_30 9998 x y); rw [← decide_not'] at this; exact this
noncomputable def wide_Of (a0 : UInt64) : api_Wide :=
  ⟨a0, 0, 0, 0⟩
set_option maxRecDepth 20000 in
set_option maxHeartbeats 1000000 in
theorem S_wide_Of (a0 : UInt64) (r : api_Wide) (h : wide_Of a0 = r) :
    SpecF Tryz.prog 36 [U a0] [] [] (fun z : Unit => True) (fun z => Ag (api_Wide.cs r)) (fun z M =>  M) (fun z M =>  M) := by
  refine .of func36 rfl ntmps36 rfl fun w0 D0 G0 => ?_
  unfold wide_Of at h
  refine .seq ?_
  refine .reg rfl ?_
  refine .opx (X.alc (cs := (api_Wide.cs ⟨0, 0, 0, 0⟩)) zeroValue30 rfl) rfl fun b1 => ?_
  refine .nil ?_
  refine .then ?_
  refine .seq ?_
  refine .reg rfl ?_
  refine .opp (P.mov .t1) rfl ?_
  refine .opp (P.bld (v := Ag (api_Wide.cs ⟨a0, 0, 0, 0⟩)) (.cons .t0 .nil) (bld_runA zeroValue30 runUnderlying30 sizeOf28 (by kernel_rfl))) rfl ?_
  refine .opg (G.str .t0 .g0 .k0 (.mk (cs' := (api_Wide.cs ⟨a0, 0, 0, 0⟩)) sizeOf30 rfl rfl rfl rfl)) rfl fun _ _ => ?_
  refine .nil ?_
  refine .then ?_
  refine .ret ?_
  subst h
  exact .finw () (.r1 rfl (.cell .g0 .k0 (.agg isAgg30 sizeOf30 rfl rfl))) trivial (Ls.of .nil) .nil
attribute [irreducible] wide_Of
noncomputable def purse_Even (a0 : UInt64) : purse_Book :=
  ⟨⟨(wide_Of a0), (wide_Of a0)⟩, ⟨(wide_Of a0), (wide_Of a0)⟩, ⟨(wide_Of a0), (wide_Of a0)⟩, ⟨(wide_Of a0), (wide_Of a0)⟩, ⟨(wide_Of a0), (wide_Of a0)⟩, ⟨(wide_Of a0), (wide_Of a0)⟩, ⟨(wide_Of a0), (wide_Of a0)⟩, ⟨(wide_Of a0), (wide_Of a0)⟩⟩
set_option maxRecDepth 20000 in
set_option maxHeartbeats 1000000 in
theorem S_purse_Even (a0 : UInt64) (r : purse_Book) (h : purse_Even a0 = r) :
    SpecF Tryz.prog 41 [U a0] [] [] (fun z : Unit => True) (fun z => Ag (purse_Book.cs r)) (fun z M =>  M) (fun z M =>  M) := by
  refine .of func41 rfl ntmps41 rfl fun w0 D0 G0 => ?_
  unfold purse_Even at h
  refine .seq ?_
  refine .reg rfl ?_
  refine .opx (X.alc (cs := (purse_Book.cs ⟨⟨⟨0, 0, 0, 0⟩, ⟨0, 0, 0, 0⟩⟩, ⟨⟨0, 0, 0, 0⟩, ⟨0, 0, 0, 0⟩⟩, ⟨⟨0, 0, 0, 0⟩, ⟨0, 0, 0, 0⟩⟩, ⟨⟨0, 0, 0, 0⟩, ⟨0, 0, 0, 0⟩⟩, ⟨⟨0, 0, 0, 0⟩, ⟨0, 0, 0, 0⟩⟩, ⟨⟨0, 0, 0, 0⟩, ⟨0, 0, 0, 0⟩⟩, ⟨⟨0, 0, 0, 0⟩, ⟨0, 0, 0, 0⟩⟩, ⟨⟨0, 0, 0, 0⟩, ⟨0, 0, 0, 0⟩⟩⟩)) zeroValue41 rfl) rfl fun b1 => ?_
  refine .nil ?_
  refine .then ?_
  refine .seq ?_
  refine .reg rfl ?_
  refine .opx (X.alc (cs := (purse_Book.cs ⟨⟨⟨0, 0, 0, 0⟩, ⟨0, 0, 0, 0⟩⟩, ⟨⟨0, 0, 0, 0⟩, ⟨0, 0, 0, 0⟩⟩, ⟨⟨0, 0, 0, 0⟩, ⟨0, 0, 0, 0⟩⟩, ⟨⟨0, 0, 0, 0⟩, ⟨0, 0, 0, 0⟩⟩, ⟨⟨0, 0, 0, 0⟩, ⟨0, 0, 0, 0⟩⟩, ⟨⟨0, 0, 0, 0⟩, ⟨0, 0, 0, 0⟩⟩, ⟨⟨0, 0, 0, 0⟩, ⟨0, 0, 0, 0⟩⟩, ⟨⟨0, 0, 0, 0⟩, ⟨0, 0, 0, 0⟩⟩⟩)) zeroValue41 rfl) rfl fun b2 => ?_
  refine .nil ?_
  refine .then ?_
  refine .seq ?_
  refine .seq ?_
  refine .reg rfl ?_
  refine .opp (P.mov .k) rfl ?_
  refine .nil ?_
  refine .then ?_
  refine .block ?_
  refine .rounds 9 ?_
  refine .rd ?_
  refine .seq ?_
  refine .reg rfl ?_
  refine .opp (P.bin (v := Bo true) .g0 .k (BinV.lss.boolc (by decide))) rfl ?_
  refine .nil ?_
  refine .then ?_
  refine .seq ?_
  refine .condT .t0 ?_
  refine .skip ?_
  refine .then ?_
  refine .seq ?_
  refine .block ?_
  refine .seq ?_
  refine .reg rfl ?_
  refine .opp (P.mov .g0) rfl ?_
  refine .opp (P.asg .t0) rfl ?_
  refine .nil ?_
  refine .then ?_
  refine .seq ?_
  refine .reg rfl ?_
  refine .opp (P.mov .k) rfl ?_
  refine .nil ?_
  refine .then ?_
  refine .block ?_
  refine .rounds 3 ?_
  refine .rd ?_
  refine .seq ?_
  refine .reg rfl ?_
  refine .opp (P.bin (v := Bo true) .g0 .k (BinV.lss.boolc (by decide))) rfl ?_
  refine .nil ?_
  refine .then ?_
  refine .seq ?_
  refine .condT .t0 ?_
  refine .skip ?_
  refine .then ?_
  refine .seq ?_
  refine .block ?_
  refine .seq ?_
  refine .reg rfl ?_
  refine .opp (P.mov .g0) rfl ?_
  refine .opp (P.asg .t0) rfl ?_
  refine .nil ?_
  refine .then ?_
  refine .drawl [blk b1 41 (purse_Book.cs ⟨⟨⟨0, 0, 0, 0⟩, ⟨0, 0, 0, 0⟩⟩, ⟨⟨0, 0, 0, 0⟩, ⟨0, 0, 0, 0⟩⟩, ⟨⟨0, 0, 0, 0⟩, ⟨0, 0, 0, 0⟩⟩, ⟨⟨0, 0, 0, 0⟩, ⟨0, 0, 0, 0⟩⟩, ⟨⟨0, 0, 0, 0⟩, ⟨0, 0, 0, 0⟩⟩, ⟨⟨0, 0, 0, 0⟩, ⟨0, 0, 0, 0⟩⟩, ⟨⟨0, 0, 0, 0⟩, ⟨0, 0, 0, 0⟩⟩, ⟨⟨0, 0, 0, 0⟩, ⟨0, 0, 0, 0⟩⟩⟩)] [] (Ls.of (.cons .k1 .nil)) Rs.nil 7 (.on 0 .pu (.on 1 .pu (.on 2 .pu (.on 4 .pu (.on 3 .go (.on 5 .pu (.on 6 .go .nl))))))) follows_mixed (.inb (.thn (.thn (.inb (.inb (.thn (.thn (.inb (.thn .body))))))))) (by kernel_rfl) ?_
  refine .dpu rfl (.n rfl) (P.mov .g2) rfl rfl ?_
  refine .dpu rfl (.n rfl) (P.mov .t1) rfl rfl ?_
  refine .dpu rfl (.n rfl) (P.mov .g7) rfl rfl ?_
  refine .dpu rfl (.n rfl) (P.iac (i := 0) .t2 rfl .g5 runUnderlying41 sizeOf39 rfl rfl) rfl rfl ?_
  refine .dgo rfl (.n rfl) (G.call call36 (.cons .t1 .nil) (S_wide_Of a0 _ rfl) .nil .nil (fun _ _ => rfl) (fun _ _ => rfl) rfl) (.inr fun _ _ _ h => (h.imp (Ls.of (.cons .k1 .nil))).ro Rs.nil) fun _ _ => ?_
  refine .dpu rfl (.n rfl) (P.iac (i := 0) .t2 rfl .t1 runUnderlying39 sizeOf30 rfl rfl) rfl rfl ?_
  refine .dgo rfl (.n rfl) (G.str .t1 .t0 .k0 (.mk (cs' := (purse_Book.cs ⟨⟨(wide_Of a0), ⟨0, 0, 0, 0⟩⟩, ⟨⟨0, 0, 0, 0⟩, ⟨0, 0, 0, 0⟩⟩, ⟨⟨0, 0, 0, 0⟩, ⟨0, 0, 0, 0⟩⟩, ⟨⟨0, 0, 0, 0⟩, ⟨0, 0, 0, 0⟩⟩, ⟨⟨0, 0, 0, 0⟩, ⟨0, 0, 0, 0⟩⟩, ⟨⟨0, 0, 0, 0⟩, ⟨0, 0, 0, 0⟩⟩, ⟨⟨0, 0, 0, 0⟩, ⟨0, 0, 0, 0⟩⟩, ⟨⟨0, 0, 0, 0⟩, ⟨0, 0, 0, 0⟩⟩⟩)) sizeOf30 rfl rfl rfl rfl)) (.inr fun _ _ _ h => (h.imp (Ls.of (.cons .k1 .nil))).ro Rs.nil) fun _ _ => ?_
  refine .dnil ?_
  refine .inn ?_
  refine .then ?_
  refine .reg rfl ?_
  refine .opp (P.bin (v := N 1) .g0 .k (.addc (by decide))) rfl ?_
  refine .drop .k1 ?_
  refine .opp (P.mov .t0) rfl ?_
  refine .nil ?_
  refine .then ?_
  refine .rd ?_
  refine .seq ?_
  refine .reg rfl ?_
  refine .opp (P.bin (v := Bo true) .g0 .k (BinV.lss.boolc (by decide))) rfl ?_
  refine .nil ?_
  refine .then ?_
  refine .seq ?_
  refine .condT .t0 ?_
  refine .skip ?_
  refine .then ?_
  refine .seq ?_
  refine .block ?_
  refine .seq ?_
  refine .reg rfl ?_
  refine .opp (P.mov .g0) rfl ?_
  refine .opp (P.asg .t0) rfl ?_
  refine .nil ?_
  refine .then ?_
  refine .drawl [blk b1 41 (purse_Book.cs ⟨⟨⟨0, 0, 0, 0⟩, ⟨0, 0, 0, 0⟩⟩, ⟨⟨0, 0, 0, 0⟩, ⟨0, 0, 0, 0⟩⟩, ⟨⟨0, 0, 0, 0⟩, ⟨0, 0, 0, 0⟩⟩, ⟨⟨0, 0, 0, 0⟩, ⟨0, 0, 0, 0⟩⟩, ⟨⟨0, 0, 0, 0⟩, ⟨0, 0, 0, 0⟩⟩, ⟨⟨0, 0, 0, 0⟩, ⟨0, 0, 0, 0⟩⟩, ⟨⟨0, 0, 0, 0⟩, ⟨0, 0, 0, 0⟩⟩, ⟨⟨0, 0, 0, 0⟩, ⟨0, 0, 0, 0⟩⟩⟩)] [] (Ls.of (.cons .k1 .nil)) Rs.nil 7 (.on 0 .pu (.on 1 .pu (.on 2 .pu (.on 4 .pu (.on 3 .go (.on 5 .pu (.on 6 .go .nl))))))) follows_mixed (.inb (.thn (.thn (.inb (.inb (.thn (.thn (.inb (.thn .body))))))))) (by kernel_rfl) ?_
  refine .dpu rfl (.n rfl) (P.mov .g2) rfl rfl ?_
  refine .dpu rfl (.n rfl) (P.mov .t1) rfl rfl ?_
  refine .dpu rfl (.n rfl) (P.mov .g7) rfl rfl ?_
  refine .dpu rfl (.n rfl) (P.iac (i := 0) .t2 rfl .g5 runUnderlying41 sizeOf39 rfl rfl) rfl rfl ?_
  refine .dgo rfl (.n rfl) (G.call call36 (.cons .t1 .nil) (S_wide_Of a0 _ rfl) .nil .nil (fun _ _ => rfl) (fun _ _ => rfl) rfl) (.inr fun _ _ _ h => (h.imp (Ls.of (.cons .k1 .nil))).ro Rs.nil) fun _ _ => ?_
  refine .dpu rfl (.n rfl) (P.iac (i := 1) .t2 rfl .t1 runUnderlying39 sizeOf30 rfl rfl) rfl rfl ?_
  refine .dgo rfl (.n rfl) (G.str .t1 .t0 .k0 (.mk (cs' := (purse_Book.cs ⟨⟨(wide_Of a0), (wide_Of a0)⟩, ⟨⟨0, 0, 0, 0⟩, ⟨0, 0, 0, 0⟩⟩, ⟨⟨0, 0, 0, 0⟩, ⟨0, 0, 0, 0⟩⟩, ⟨⟨0, 0, 0, 0⟩, ⟨0, 0, 0, 0⟩⟩, ⟨⟨0, 0, 0, 0⟩, ⟨0, 0, 0, 0⟩⟩, ⟨⟨0, 0, 0, 0⟩, ⟨0, 0, 0, 0⟩⟩, ⟨⟨0, 0, 0, 0⟩, ⟨0, 0, 0, 0⟩⟩, ⟨⟨0, 0, 0, 0⟩, ⟨0, 0, 0, 0⟩⟩⟩)) sizeOf30 rfl rfl rfl rfl)) (.inr fun _ _ _ h => (h.imp (Ls.of (.cons .k1 .nil))).ro Rs.nil) fun _ _ => ?_
  refine .dnil ?_
  refine .inn ?_
  refine .then ?_
  refine .reg rfl ?_
  refine .opp (P.bin (v := N 2) .g0 .k (.addc (by decide))) rfl ?_
  refine .drop .k1 ?_
  refine .opp (P.mov .t0) rfl ?_
  refine .nil ?_
  refine .then ?_
  refine .rd ?_
  refine .seq ?_
  refine .reg rfl ?_
  refine .opp (P.bin (v := Bo false) .g0 .k (BinV.lss.boolc (by decide))) rfl ?_
  refine .nil ?_
  refine .then ?_
  refine .seq ?_
  refine .condF .t0 ?_
  refine .exit ?_
  refine .thx ?_
  refine .thx ?_
  refine .inb ?_
  refine .inn ?_
  refine .then ?_
  refine .reg rfl ?_
  refine .opp (P.bin (v := N 1) .g2 .k (.addc (by decide))) rfl ?_
  refine .drop .k3 ?_
  refine .opp (P.mov .t0) rfl ?_
  refine .nil ?_
  refine .then ?_
  refine .rd ?_
  refine .seq ?_
  refine .reg rfl ?_
  refine .opp (P.bin (v := Bo true) .g0 .k (BinV.lss.boolc (by decide))) rfl ?_
  refine .nil ?_
  refine .then ?_
  refine .seq ?_
  refine .condT .t0 ?_
  refine .skip ?_
  refine .then ?_
  refine .seq ?_
  refine .block ?_
  refine .seq ?_
  refine .reg rfl ?_
  refine .opp (P.mov .g0) rfl ?_
  refine .drop .k3 ?_
  refine .opp (P.asg .t0) rfl ?_
  refine .nil ?_
  refine .then ?_
  refine .seq ?_
  refine .reg rfl ?_
  refine .drop .k2 ?_
  refine .opp (P.mov .k) rfl ?_
  refine .nil ?_
  refine .then ?_
  refine .block ?_
  refine .rounds 3 ?_
  refine .rd ?_
  refine .seq ?_
  refine .reg rfl ?_
  refine .opp (P.bin (v := Bo true) .g0 .k (BinV.lss.boolc (by decide))) rfl ?_
  refine .nil ?_
  refine .then ?_
  refine .seq ?_
  refine .condT .t0 ?_
  refine .skip ?_
  refine .then ?_
  refine .seq ?_
  refine .block ?_
  refine .seq ?_
  refine .reg rfl ?_
  refine .opp (P.mov .g0) rfl ?_
  refine .opp (P.asg .t0) rfl ?_
  refine .nil ?_
  refine .then ?_
  refine .drawl [blk b1 41 (purse_Book.cs ⟨⟨⟨0, 0, 0, 0⟩, ⟨0, 0, 0, 0⟩⟩, ⟨⟨0, 0, 0, 0⟩, ⟨0, 0, 0, 0⟩⟩, ⟨⟨0, 0, 0, 0⟩, ⟨0, 0, 0, 0⟩⟩, ⟨⟨0, 0, 0, 0⟩, ⟨0, 0, 0, 0⟩⟩, ⟨⟨0, 0, 0, 0⟩, ⟨0, 0, 0, 0⟩⟩, ⟨⟨0, 0, 0, 0⟩, ⟨0, 0, 0, 0⟩⟩, ⟨⟨0, 0, 0, 0⟩, ⟨0, 0, 0, 0⟩⟩, ⟨⟨0, 0, 0, 0⟩, ⟨0, 0, 0, 0⟩⟩⟩)] [] (Ls.of (.cons .k1 .nil)) Rs.nil 7 (.on 0 .pu (.on 1 .pu (.on 2 .pu (.on 4 .pu (.on 3 .go (.on 5 .pu (.on 6 .go .nl))))))) follows_mixed (.inb (.thn (.thn (.inb (.inb (.thn (.thn (.inb (.thn .body))))))))) (by kernel_rfl) ?_
  refine .dpu rfl (.n rfl) (P.mov .g2) rfl rfl ?_
  refine .dpu rfl (.n rfl) (P.mov .t1) rfl rfl ?_
  refine .dpu rfl (.n rfl) (P.mov .g7) rfl rfl ?_
  refine .dpu rfl (.n rfl) (P.iac (i := 1) .t2 rfl .g5 runUnderlying41 sizeOf39 rfl rfl) rfl rfl ?_
  refine .dgo rfl (.n rfl) (G.call call36 (.cons .t1 .nil) (S_wide_Of a0 _ rfl) .nil .nil (fun _ _ => rfl) (fun _ _ => rfl) rfl) (.inr fun _ _ _ h => (h.imp (Ls.of (.cons .k1 .nil))).ro Rs.nil) fun _ _ => ?_
  refine .dpu rfl (.n rfl) (P.iac (i := 0) .t2 rfl .t1 runUnderlying39 sizeOf30 rfl rfl) rfl rfl ?_
  refine .dgo rfl (.n rfl) (G.str .t1 .t0 .k0 (.mk (cs' := (purse_Book.cs ⟨⟨(wide_Of a0), (wide_Of a0)⟩, ⟨(wide_Of a0), ⟨0, 0, 0, 0⟩⟩, ⟨⟨0, 0, 0, 0⟩, ⟨0, 0, 0, 0⟩⟩, ⟨⟨0, 0, 0, 0⟩, ⟨0, 0, 0, 0⟩⟩, ⟨⟨0, 0, 0, 0⟩, ⟨0, 0, 0, 0⟩⟩, ⟨⟨0, 0, 0, 0⟩, ⟨0, 0, 0, 0⟩⟩, ⟨⟨0, 0, 0, 0⟩, ⟨0, 0, 0, 0⟩⟩, ⟨⟨0, 0, 0, 0⟩, ⟨0, 0, 0, 0⟩⟩⟩)) sizeOf30 rfl rfl rfl rfl)) (.inr fun _ _ _ h => (h.imp (Ls.of (.cons .k1 .nil))).ro Rs.nil) fun _ _ => ?_
  refine .dnil ?_
  refine .inn ?_
  refine .then ?_
  refine .reg rfl ?_
  refine .opp (P.bin (v := N 1) .g0 .k (.addc (by decide))) rfl ?_
  refine .drop .k1 ?_
  refine .opp (P.mov .t0) rfl ?_
  refine .nil ?_
  refine .then ?_
  refine .rd ?_
  refine .seq ?_
  refine .reg rfl ?_
  refine .opp (P.bin (v := Bo true) .g0 .k (BinV.lss.boolc (by decide))) rfl ?_
  refine .nil ?_
  refine .then ?_
  refine .seq ?_
  refine .condT .t0 ?_
  refine .skip ?_
  refine .then ?_
  refine .seq ?_
  refine .block ?_
  refine .seq ?_
  refine .reg rfl ?_
  refine .opp (P.mov .g0) rfl ?_
  refine .opp (P.asg .t0) rfl ?_
  refine .nil ?_
  refine .then ?_
  refine .drawl [blk b1 41 (purse_Book.cs ⟨⟨⟨0, 0, 0, 0⟩, ⟨0, 0, 0, 0⟩⟩, ⟨⟨0, 0, 0, 0⟩, ⟨0, 0, 0, 0⟩⟩, ⟨⟨0, 0, 0, 0⟩, ⟨0, 0, 0, 0⟩⟩, ⟨⟨0, 0, 0, 0⟩, ⟨0, 0, 0, 0⟩⟩, ⟨⟨0, 0, 0, 0⟩, ⟨0, 0, 0, 0⟩⟩, ⟨⟨0, 0, 0, 0⟩, ⟨0, 0, 0, 0⟩⟩, ⟨⟨0, 0, 0, 0⟩, ⟨0, 0, 0, 0⟩⟩, ⟨⟨0, 0, 0, 0⟩, ⟨0, 0, 0, 0⟩⟩⟩)] [] (Ls.of (.cons .k1 .nil)) Rs.nil 7 (.on 0 .pu (.on 1 .pu (.on 2 .pu (.on 4 .pu (.on 3 .go (.on 5 .pu (.on 6 .go .nl))))))) follows_mixed (.inb (.thn (.thn (.inb (.inb (.thn (.thn (.inb (.thn .body))))))))) (by kernel_rfl) ?_
  refine .dpu rfl (.n rfl) (P.mov .g2) rfl rfl ?_
  refine .dpu rfl (.n rfl) (P.mov .t1) rfl rfl ?_
  refine .dpu rfl (.n rfl) (P.mov .g7) rfl rfl ?_
  refine .dpu rfl (.n rfl) (P.iac (i := 1) .t2 rfl .g5 runUnderlying41 sizeOf39 rfl rfl) rfl rfl ?_
  refine .dgo rfl (.n rfl) (G.call call36 (.cons .t1 .nil) (S_wide_Of a0 _ rfl) .nil .nil (fun _ _ => rfl) (fun _ _ => rfl) rfl) (.inr fun _ _ _ h => (h.imp (Ls.of (.cons .k1 .nil))).ro Rs.nil) fun _ _ => ?_
  refine .dpu rfl (.n rfl) (P.iac (i := 1) .t2 rfl .t1 runUnderlying39 sizeOf30 rfl rfl) rfl rfl ?_
  refine .dgo rfl (.n rfl) (G.str .t1 .t0 .k0 (.mk (cs' := (purse_Book.cs ⟨⟨(wide_Of a0), (wide_Of a0)⟩, ⟨(wide_Of a0), (wide_Of a0)⟩, ⟨⟨0, 0, 0, 0⟩, ⟨0, 0, 0, 0⟩⟩, ⟨⟨0, 0, 0, 0⟩, ⟨0, 0, 0, 0⟩⟩, ⟨⟨0, 0, 0, 0⟩, ⟨0, 0, 0, 0⟩⟩, ⟨⟨0, 0, 0, 0⟩, ⟨0, 0, 0, 0⟩⟩, ⟨⟨0, 0, 0, 0⟩, ⟨0, 0, 0, 0⟩⟩, ⟨⟨0, 0, 0, 0⟩, ⟨0, 0, 0, 0⟩⟩⟩)) sizeOf30 rfl rfl rfl rfl)) (.inr fun _ _ _ h => (h.imp (Ls.of (.cons .k1 .nil))).ro Rs.nil) fun _ _ => ?_
  refine .dnil ?_
  refine .inn ?_
  refine .then ?_
  refine .reg rfl ?_
  refine .opp (P.bin (v := N 2) .g0 .k (.addc (by decide))) rfl ?_
  refine .drop .k1 ?_
  refine .opp (P.mov .t0) rfl ?_
  refine .nil ?_
  refine .then ?_
  refine .rd ?_
  refine .seq ?_
  refine .reg rfl ?_
  refine .opp (P.bin (v := Bo false) .g0 .k (BinV.lss.boolc (by decide))) rfl ?_
  refine .nil ?_
  refine .then ?_
  refine .seq ?_
  refine .condF .t0 ?_
  refine .exit ?_
  refine .thx ?_
  refine .thx ?_
  refine .inb ?_
  refine .inn ?_
  refine .then ?_
  refine .reg rfl ?_
  refine .opp (P.bin (v := N 2) .g2 .k (.addc (by decide))) rfl ?_
  refine .drop .k3 ?_
  refine .opp (P.mov .t0) rfl ?_
  refine .nil ?_
  refine .then ?_
  refine .rd ?_
  refine .seq ?_
  refine .reg rfl ?_
  refine .opp (P.bin (v := Bo true) .g0 .k (BinV.lss.boolc (by decide))) rfl ?_
  refine .nil ?_
  refine .then ?_
  refine .seq ?_
  refine .condT .t0 ?_
  refine .skip ?_
  refine .then ?_
  refine .seq ?_
  refine .block ?_
  refine .seq ?_
  refine .reg rfl ?_
  refine .opp (P.mov .g0) rfl ?_
  refine .drop .k3 ?_
  refine .opp (P.asg .t0) rfl ?_
  refine .nil ?_
  refine .then ?_
  refine .seq ?_
  refine .reg rfl ?_
  refine .drop .k2 ?_
  refine .opp (P.mov .k) rfl ?_
  refine .nil ?_
  refine .then ?_
  refine .block ?_
  refine .rounds 3 ?_
  refine .rd ?_
  refine .seq ?_
  refine .reg rfl ?_
  refine .opp (P.bin (v := Bo true) .g0 .k (BinV.lss.boolc (by decide))) rfl ?_
  refine .nil ?_
  refine .then ?_
  refine .seq ?_
  refine .condT .t0 ?_
  refine .skip ?_
  refine .then ?_
  refine .seq ?_
  refine .block ?_
  refine .seq ?_
  refine .reg rfl ?_
  refine .opp (P.mov .g0) rfl ?_
  refine .opp (P.asg .t0) rfl ?_
  refine .nil ?_
  refine .then ?_
  refine .drawl [blk b1 41 (purse_Book.cs ⟨⟨⟨0, 0, 0, 0⟩, ⟨0, 0, 0, 0⟩⟩, ⟨⟨0, 0, 0, 0⟩, ⟨0, 0, 0, 0⟩⟩, ⟨⟨0, 0, 0, 0⟩, ⟨0, 0, 0, 0⟩⟩, ⟨⟨0, 0, 0, 0⟩, ⟨0, 0, 0, 0⟩⟩, ⟨⟨0, 0, 0, 0⟩, ⟨0, 0, 0, 0⟩⟩, ⟨⟨0, 0, 0, 0⟩, ⟨0, 0, 0, 0⟩⟩, ⟨⟨0, 0, 0, 0⟩, ⟨0, 0, 0, 0⟩⟩, ⟨⟨0, 0, 0, 0⟩, ⟨0, 0, 0, 0⟩⟩⟩)] [] (Ls.of (.cons .k1 .nil)) Rs.nil 7 (.on 0 .pu (.on 1 .pu (.on 2 .pu (.on 4 .pu (.on 3 .go (.on 5 .pu (.on 6 .go .nl))))))) follows_mixed (.inb (.thn (.thn (.inb (.inb (.thn (.thn (.inb (.thn .body))))))))) (by kernel_rfl) ?_
  refine .dpu rfl (.n rfl) (P.mov .g2) rfl rfl ?_
  refine .dpu rfl (.n rfl) (P.mov .t1) rfl rfl ?_
  refine .dpu rfl (.n rfl) (P.mov .g7) rfl rfl ?_
  refine .dpu rfl (.n rfl) (P.iac (i := 2) .t2 rfl .g5 runUnderlying41 sizeOf39 rfl rfl) rfl rfl ?_
  refine .dgo rfl (.n rfl) (G.call call36 (.cons .t1 .nil) (S_wide_Of a0 _ rfl) .nil .nil (fun _ _ => rfl) (fun _ _ => rfl) rfl) (.inr fun _ _ _ h => (h.imp (Ls.of (.cons .k1 .nil))).ro Rs.nil) fun _ _ => ?_
  refine .dpu rfl (.n rfl) (P.iac (i := 0) .t2 rfl .t1 runUnderlying39 sizeOf30 rfl rfl) rfl rfl ?_
  refine .dgo rfl (.n rfl) (G.str .t1 .t0 .k0 (.mk (cs' := (purse_Book.cs ⟨⟨(wide_Of a0), (wide_Of a0)⟩, ⟨(wide_Of a0), (wide_Of a0)⟩, ⟨(wide_Of a0), ⟨0, 0, 0, 0⟩⟩, ⟨⟨0, 0, 0, 0⟩, ⟨0, 0, 0, 0⟩⟩, ⟨⟨0, 0, 0, 0⟩, ⟨0, 0, 0, 0⟩⟩, ⟨⟨0, 0, 0, 0⟩, ⟨0, 0, 0, 0⟩⟩, ⟨⟨0, 0, 0, 0⟩, ⟨0, 0, 0, 0⟩⟩, ⟨⟨0, 0, 0, 0⟩, ⟨0, 0, 0, 0⟩⟩⟩)) sizeOf30 rfl rfl rfl rfl)) (.inr fun _ _ _ h => (h.imp (Ls.of (.cons .k1 .nil))).ro Rs.nil) fun _ _ => ?_
  refine .dnil ?_
  refine .inn ?_
  refine .then ?_
  refine .reg rfl ?_
  refine .opp (P.bin (v := N 1) .g0 .k (.addc (by decide))) rfl ?_
  refine .drop .k1 ?_
  refine .opp (P.mov .t0) rfl ?_
  refine .nil ?_
  refine .then ?_
  refine .rd ?_
  refine .seq ?_
  refine .reg rfl ?_
  refine .opp (P.bin (v := Bo true) .g0 .k (BinV.lss.boolc (by decide))) rfl ?_
  refine .nil ?_
  refine .then ?_
  refine .seq ?_
  refine .condT .t0 ?_
  refine .skip ?_
  refine .then ?_
  refine .seq ?_
  refine .block ?_
  refine .seq ?_
  refine .reg rfl ?_
  refine .opp (P.mov .g0) rfl ?_
  refine .opp (P.asg .t0) rfl ?_
  refine .nil ?_
  refine .then ?_
  refine .drawl [blk b1 41 (purse_Book.cs ⟨⟨⟨0, 0, 0, 0⟩, ⟨0, 0, 0, 0⟩⟩, ⟨⟨0, 0, 0, 0⟩, ⟨0, 0, 0, 0⟩⟩, ⟨⟨0, 0, 0, 0⟩, ⟨0, 0, 0, 0⟩⟩, ⟨⟨0, 0, 0, 0⟩, ⟨0, 0, 0, 0⟩⟩, ⟨⟨0, 0, 0, 0⟩, ⟨0, 0, 0, 0⟩⟩, ⟨⟨0, 0, 0, 0⟩, ⟨0, 0, 0, 0⟩⟩, ⟨⟨0, 0, 0, 0⟩, ⟨0, 0, 0, 0⟩⟩, ⟨⟨0, 0, 0, 0⟩, ⟨0, 0, 0, 0⟩⟩⟩)] [] (Ls.of (.cons .k1 .nil)) Rs.nil 7 (.on 0 .pu (.on 1 .pu (.on 2 .pu (.on 4 .pu (.on 3 .go (.on 5 .pu (.on 6 .go .nl))))))) follows_mixed (.inb (.thn (.thn (.inb (.inb (.thn (.thn (.inb (.thn .body))))))))) (by kernel_rfl) ?_
  refine .dpu rfl (.n rfl) (P.mov .g2) rfl rfl ?_
  refine .dpu rfl (.n rfl) (P.mov .t1) rfl rfl ?_
  refine .dpu rfl (.n rfl) (P.mov .g7) rfl rfl ?_
  refine .dpu rfl (.n rfl) (P.iac (i := 2) .t2 rfl .g5 runUnderlying41 sizeOf39 rfl rfl) rfl rfl ?_
  refine .dgo rfl (.n rfl) (G.call call36 (.cons .t1 .nil) (S_wide_Of a0 _ rfl) .nil .nil (fun _ _ => rfl) (fun _ _ => rfl) rfl) (.inr fun _ _ _ h => (h.imp (Ls.of (.cons .k1 .nil))).ro Rs.nil) fun _ _ => ?_
  refine .dpu rfl (.n rfl) (P.iac (i := 1) .t2 rfl .t1 runUnderlying39 sizeOf30 rfl rfl) rfl rfl ?_
  refine .dgo rfl (.n rfl) (G.str .t1 .t0 .k0 (.mk (cs' := (purse_Book.cs ⟨⟨(wide_Of a0), (wide_Of a0)⟩, ⟨(wide_Of a0), (wide_Of a0)⟩, ⟨(wide_Of a0), (wide_Of a0)⟩, ⟨⟨0, 0, 0, 0⟩, ⟨0, 0, 0, 0⟩⟩, ⟨⟨0, 0, 0, 0⟩, ⟨0, 0, 0, 0⟩⟩, ⟨⟨0, 0, 0, 0⟩, ⟨0, 0, 0, 0⟩⟩, ⟨⟨0, 0, 0, 0⟩, ⟨0, 0, 0, 0⟩⟩, ⟨⟨0, 0, 0, 0⟩, ⟨0, 0, 0, 0⟩⟩⟩)) sizeOf30 rfl rfl rfl rfl)) (.inr fun _ _ _ h => (h.imp (Ls.of (.cons .k1 .nil))).ro Rs.nil) fun _ _ => ?_
  refine .dnil ?_
  refine .inn ?_
  refine .then ?_
  refine .reg rfl ?_
  refine .opp (P.bin (v := N 2) .g0 .k (.addc (by decide))) rfl ?_
  refine .drop .k1 ?_
  refine .opp (P.mov .t0) rfl ?_
  refine .nil ?_
  refine .then ?_
  refine .rd ?_
  refine .seq ?_
  refine .reg rfl ?_
  refine .opp (P.bin (v := Bo false) .g0 .k (BinV.lss.boolc (by decide))) rfl ?_
  refine .nil ?_
  refine .then ?_
  refine .seq ?_
  refine .condF .t0 ?_
  refine .exit ?_
  refine .thx ?_
  refine .thx ?_
  refine .inb ?_
  refine .inn ?_
  refine .then ?_
  refine .reg rfl ?_
  refine .opp (P.bin (v := N 3) .g2 .k (.addc (by decide))) rfl ?_
  refine .drop .k3 ?_
  refine .opp (P.mov .t0) rfl ?_
  refine .nil ?_
  refine .then ?_
  refine .rd ?_
  refine .seq ?_
  refine .reg rfl ?_
  refine .opp (P.bin (v := Bo true) .g0 .k (BinV.lss.boolc (by decide))) rfl ?_
  refine .nil ?_
  refine .then ?_
  refine .seq ?_
  refine .condT .t0 ?_
  refine .skip ?_
  refine .then ?_
  refine .seq ?_
  refine .block ?_
  refine .seq ?_
  refine .reg rfl ?_
  refine .opp (P.mov .g0) rfl ?_
  refine .drop .k3 ?_
  refine .opp (P.asg .t0) rfl ?_
  refine .nil ?_
  refine .then ?_
  refine .seq ?_
  refine .reg rfl ?_
  refine .drop .k2 ?_
  refine .opp (P.mov .k) rfl ?_
  refine .nil ?_
  refine .then ?_
  refine .block ?_
  refine .rounds 3 ?_
  refine .rd ?_
  refine .seq ?_
  refine .reg rfl ?_
  refine .opp (P.bin (v := Bo true) .g0 .k (BinV.lss.boolc (by decide))) rfl ?_
  refine .nil ?_
  refine .then ?_
  refine .seq ?_
  refine .condT .t0 ?_
  refine .skip ?_
  refine .then ?_
  refine .seq ?_
  refine .block ?_
  refine .seq ?_
  refine .reg rfl ?_
  refine .opp (P.mov .g0) rfl ?_
  refine .opp (P.asg .t0) rfl ?_
  refine .nil ?_
  refine .then ?_
  refine .drawl [blk b1 41 (purse_Book.cs ⟨⟨⟨0, 0, 0, 0⟩, ⟨0, 0, 0, 0⟩⟩, ⟨⟨0, 0, 0, 0⟩, ⟨0, 0, 0, 0⟩⟩, ⟨⟨0, 0, 0, 0⟩, ⟨0, 0, 0, 0⟩⟩, ⟨⟨0, 0, 0, 0⟩, ⟨0, 0, 0, 0⟩⟩, ⟨⟨0, 0, 0, 0⟩, ⟨0, 0, 0, 0⟩⟩, ⟨⟨0, 0, 0, 0⟩, ⟨0, 0, 0, 0⟩⟩, ⟨⟨0, 0, 0, 0⟩, ⟨0, 0, 0, 0⟩⟩, ⟨⟨0, 0, 0, 0⟩, ⟨0, 0, 0, 0⟩⟩⟩)] [] (Ls.of (.cons .k1 .nil)) Rs.nil 7 (.on 0 .pu (.on 1 .pu (.on 2 .pu (.on 4 .pu (.on 3 .go (.on 5 .pu (.on 6 .go .nl))))))) follows_mixed (.inb (.thn (.thn (.inb (.inb (.thn (.thn (.inb (.thn .body))))))))) (by kernel_rfl) ?_
  refine .dpu rfl (.n rfl) (P.mov .g2) rfl rfl ?_
  refine .dpu rfl (.n rfl) (P.mov .t1) rfl rfl ?_
  refine .dpu rfl (.n rfl) (P.mov .g7) rfl rfl ?_
  refine .dpu rfl (.n rfl) (P.iac (i := 3) .t2 rfl .g5 runUnderlying41 sizeOf39 rfl rfl) rfl rfl ?_
  refine .dgo rfl (.n rfl) (G.call call36 (.cons .t1 .nil) (S_wide_Of a0 _ rfl) .nil .nil (fun _ _ => rfl) (fun _ _ => rfl) rfl) (.inr fun _ _ _ h => (h.imp (Ls.of (.cons .k1 .nil))).ro Rs.nil) fun _ _ => ?_
  refine .dpu rfl (.n rfl) (P.iac (i := 0) .t2 rfl .t1 runUnderlying39 sizeOf30 rfl rfl) rfl rfl ?_
  refine .dgo rfl (.n rfl) (G.str .t1 .t0 .k0 (.mk (cs' := (purse_Book.cs ⟨⟨(wide_Of a0), (wide_Of a0)⟩, ⟨(wide_Of a0), (wide_Of a0)⟩, ⟨(wide_Of a0), (wide_Of a0)⟩, ⟨(wide_Of a0), ⟨0, 0, 0, 0⟩⟩, ⟨⟨0, 0, 0, 0⟩, ⟨0, 0, 0, 0⟩⟩, ⟨⟨0, 0, 0, 0⟩, ⟨0, 0, 0, 0⟩⟩, ⟨⟨0, 0, 0, 0⟩, ⟨0, 0, 0, 0⟩⟩, ⟨⟨0, 0, 0, 0⟩, ⟨0, 0, 0, 0⟩⟩⟩)) sizeOf30 rfl rfl rfl rfl)) (.inr fun _ _ _ h => (h.imp (Ls.of (.cons .k1 .nil))).ro Rs.nil) fun _ _ => ?_
  refine .dnil ?_
  refine .inn ?_
  refine .then ?_
  refine .reg rfl ?_
  refine .opp (P.bin (v := N 1) .g0 .k (.addc (by decide))) rfl ?_
  refine .drop .k1 ?_
  refine .opp (P.mov .t0) rfl ?_
  refine .nil ?_
  refine .then ?_
  refine .rd ?_
  refine .seq ?_
  refine .reg rfl ?_
  refine .opp (P.bin (v := Bo true) .g0 .k (BinV.lss.boolc (by decide))) rfl ?_
  refine .nil ?_
  refine .then ?_
  refine .seq ?_
  refine .condT .t0 ?_
  refine .skip ?_
  refine .then ?_
  refine .seq ?_
  refine .block ?_
  refine .seq ?_
  refine .reg rfl ?_
  refine .opp (P.mov .g0) rfl ?_
  refine .opp (P.asg .t0) rfl ?_
  refine .nil ?_
  refine .then ?_
  refine .drawl [blk b1 41 (purse_Book.cs ⟨⟨⟨0, 0, 0, 0⟩, ⟨0, 0, 0, 0⟩⟩, ⟨⟨0, 0, 0, 0⟩, ⟨0, 0, 0, 0⟩⟩, ⟨⟨0, 0, 0, 0⟩, ⟨0, 0, 0, 0⟩⟩, ⟨⟨0, 0, 0, 0⟩, ⟨0, 0, 0, 0⟩⟩, ⟨⟨0, 0, 0, 0⟩, ⟨0, 0, 0, 0⟩⟩, ⟨⟨0, 0, 0, 0⟩, ⟨0, 0, 0, 0⟩⟩, ⟨⟨0, 0, 0, 0⟩, ⟨0, 0, 0, 0⟩⟩, ⟨⟨0, 0, 0, 0⟩, ⟨0, 0, 0, 0⟩⟩⟩)] [] (Ls.of (.cons .k1 .nil)) Rs.nil 7 (.on 0 .pu (.on 1 .pu (.on 2 .pu (.on 4 .pu (.on 3 .go (.on 5 .pu (.on 6 .go .nl))))))) follows_mixed (.inb (.thn (.thn (.inb (.inb (.thn (.thn (.inb (.thn .body))))))))) (by kernel_rfl) ?_
  refine .dpu rfl (.n rfl) (P.mov .g2) rfl rfl ?_
  refine .dpu rfl (.n rfl) (P.mov .t1) rfl rfl ?_
  refine .dpu rfl (.n rfl) (P.mov .g7) rfl rfl ?_
  refine .dpu rfl (.n rfl) (P.iac (i := 3) .t2 rfl .g5 runUnderlying41 sizeOf39 rfl rfl) rfl rfl ?_
  refine .dgo rfl (.n rfl) (G.call call36 (.cons .t1 .nil) (S_wide_Of a0 _ rfl) .nil .nil (fun _ _ => rfl) (fun _ _ => rfl) rfl) (.inr fun _ _ _ h => (h.imp (Ls.of (.cons .k1 .nil))).ro Rs.nil) fun _ _ => ?_
  refine .dpu rfl (.n rfl) (P.iac (i := 1) .t2 rfl .t1 runUnderlying39 sizeOf30 rfl rfl) rfl rfl ?_
  refine .dgo rfl (.n rfl) (G.str .t1 .t0 .k0 (.mk (cs' := (purse_Book.cs ⟨⟨(wide_Of a0), (wide_Of a0)⟩, ⟨(wide_Of a0), (wide_Of a0)⟩, ⟨(wide_Of a0), (wide_Of a0)⟩, ⟨(wide_Of a0), (wide_Of a0)⟩, ⟨⟨0, 0, 0, 0⟩, ⟨0, 0, 0, 0⟩⟩, ⟨⟨0, 0, 0, 0⟩, ⟨0, 0, 0, 0⟩⟩, ⟨⟨0, 0, 0, 0⟩, ⟨0, 0, 0, 0⟩⟩, ⟨⟨0, 0, 0, 0⟩, ⟨0, 0, 0, 0⟩⟩⟩)) sizeOf30 rfl rfl rfl rfl)) (.inr fun _ _ _ h => (h.imp (Ls.of (.cons .k1 .nil))).ro Rs.nil) fun _ _ => ?_
  refine .dnil ?_
  refine .inn ?_
  refine .then ?_
  refine .reg rfl ?_
  refine .opp (P.bin (v := N 2) .g0 .k (.addc (by decide))) rfl ?_
  refine .drop .k1 ?_
  refine .opp (P.mov .t0) rfl ?_
  refine .nil ?_
  refine .then ?_
  refine .rd ?_
  refine .seq ?_
  refine .reg rfl ?_
  refine .opp (P.bin (v := Bo false) .g0 .k (BinV.lss.boolc (by decide))) rfl ?_
  refine .nil ?_
  refine .then ?_
  refine .seq ?_
  refine .condF .t0 ?_
  refine .exit ?_
  refine .thx ?_
  refine .thx ?_
  refine .inb ?_
  refine .inn ?_
  refine .then ?_
  refine .reg rfl ?_
  refine .opp (P.bin (v := N 4) .g2 .k (.addc (by decide))) rfl ?_
  refine .drop .k3 ?_
  refine .opp (P.mov .t0) rfl ?_
  refine .nil ?_
  refine .then ?_
  refine .rd ?_
  refine .seq ?_
  refine .reg rfl ?_
  refine .opp (P.bin (v := Bo true) .g0 .k (BinV.lss.boolc (by decide))) rfl ?_
  refine .nil ?_
  refine .then ?_
  refine .seq ?_
  refine .condT .t0 ?_
  refine .skip ?_
  refine .then ?_
  refine .seq ?_
  refine .block ?_
  refine .seq ?_
  refine .reg rfl ?_
  refine .opp (P.mov .g0) rfl ?_
  refine .drop .k3 ?_
  refine .opp (P.asg .t0) rfl ?_
  refine .nil ?_
  refine .then ?_
  refine .seq ?_
  refine .reg rfl ?_
  refine .drop .k2 ?_
  refine .opp (P.mov .k) rfl ?_
  refine .nil ?_
  refine .then ?_
  refine .block ?_
  refine .rounds 3 ?_
  refine .rd ?_
  refine .seq ?_
  refine .reg rfl ?_
  refine .opp (P.bin (v := Bo true) .g0 .k (BinV.lss.boolc (by decide))) rfl ?_
  refine .nil ?_
  refine .then ?_
  refine .seq ?_
  refine .condT .t0 ?_
  refine .skip ?_
  refine .then ?_
  refine .seq ?_
  refine .block ?_
  refine .seq ?_
  refine .reg rfl ?_
  refine .opp (P.mov .g0) rfl ?_
  refine .opp (P.asg .t0) rfl ?_
  refine .nil ?_
  refine .then ?_
  refine .drawl [blk b1 41 (purse_Book.cs ⟨⟨⟨0, 0, 0, 0⟩, ⟨0, 0, 0, 0⟩⟩, ⟨⟨0, 0, 0, 0⟩, ⟨0, 0, 0, 0⟩⟩, ⟨⟨0, 0, 0, 0⟩, ⟨0, 0, 0, 0⟩⟩, ⟨⟨0, 0, 0, 0⟩, ⟨0, 0, 0, 0⟩⟩, ⟨⟨0, 0, 0, 0⟩, ⟨0, 0, 0, 0⟩⟩, ⟨⟨0, 0, 0, 0⟩, ⟨0, 0, 0, 0⟩⟩, ⟨⟨0, 0, 0, 0⟩, ⟨0, 0, 0, 0⟩⟩, ⟨⟨0, 0, 0, 0⟩, ⟨0, 0, 0, 0⟩⟩⟩)] [] (Ls.of (.cons .k1 .nil)) Rs.nil 7 (.on 0 .pu (.on 1 .pu (.on 2 .pu (.on 4 .pu (.on 3 .go (.on 5 .pu (.on 6 .go .nl))))))) follows_mixed (.inb (.thn (.thn (.inb (.inb (.thn (.thn (.inb (.thn .body))))))))) (by kernel_rfl) ?_
  refine .dpu rfl (.n rfl) (P.mov .g2) rfl rfl ?_
  refine .dpu rfl (.n rfl) (P.mov .t1) rfl rfl ?_
  refine .dpu rfl (.n rfl) (P.mov .g7) rfl rfl ?_
  refine .dpu rfl (.n rfl) (P.iac (i := 4) .t2 rfl .g5 runUnderlying41 sizeOf39 rfl rfl) rfl rfl ?_
  refine .dgo rfl (.n rfl) (G.call call36 (.cons .t1 .nil) (S_wide_Of a0 _ rfl) .nil .nil (fun _ _ => rfl) (fun _ _ => rfl) rfl) (.inr fun _ _ _ h => (h.imp (Ls.of (.cons .k1 .nil))).ro Rs.nil) fun _ _ => ?_
  refine .dpu rfl (.n rfl) (P.iac (i := 0) .t2 rfl .t1 runUnderlying39 sizeOf30 rfl rfl) rfl rfl ?_
  refine .dgo rfl (.n rfl) (G.str .t1 .t0 .k0 (.mk (cs' := (purse_Book.cs ⟨⟨(wide_Of a0), (wide_Of a0)⟩, ⟨(wide_Of a0), (wide_Of a0)⟩, ⟨(wide_Of a0), (wide_Of a0)⟩, ⟨(wide_Of a0), (wide_Of a0)⟩, ⟨(wide_Of a0), ⟨0, 0, 0, 0⟩⟩, ⟨⟨0, 0, 0, 0⟩, ⟨0, 0, 0, 0⟩⟩, ⟨⟨0, 0, 0, 0⟩, ⟨0, 0, 0, 0⟩⟩, ⟨⟨0, 0, 0, 0⟩, ⟨0, 0, 0, 0⟩⟩⟩)) sizeOf30 rfl rfl rfl rfl)) (.inr fun _ _ _ h => (h.imp (Ls.of (.cons .k1 .nil))).ro Rs.nil) fun _ _ => ?_
  refine .dnil ?_
  refine .inn ?_
  refine .then ?_
  refine .reg rfl ?_
  refine .opp (P.bin (v := N 1) .g0 .k (.addc (by decide))) rfl ?_
  refine .drop .k1 ?_
  refine .opp (P.mov .t0) rfl ?_
  refine .nil ?_
  refine .then ?_
  refine .rd ?_
  refine .seq ?_
  refine .reg rfl ?_
  refine .opp (P.bin (v := Bo true) .g0 .k (BinV.lss.boolc (by decide))) rfl ?_
  refine .nil ?_
  refine .then ?_
  refine .seq ?_
  refine .condT .t0 ?_
  refine .skip ?_
  refine .then ?_
  refine .seq ?_
  refine .block ?_
  refine .seq ?_
  refine .reg rfl ?_
  refine .opp (P.mov .g0) rfl ?_
  refine .opp (P.asg .t0) rfl ?_
  refine .nil ?_
  refine .then ?_
  refine .drawl [blk b1 41 (purse_Book.cs ⟨⟨⟨0, 0, 0, 0⟩, ⟨0, 0, 0, 0⟩⟩, ⟨⟨0, 0, 0, 0⟩, ⟨0, 0, 0, 0⟩⟩, ⟨⟨0, 0, 0, 0⟩, ⟨0, 0, 0, 0⟩⟩, ⟨⟨0, 0, 0, 0⟩, ⟨0, 0, 0, 0⟩⟩, ⟨⟨0, 0, 0, 0⟩, ⟨0, 0, 0, 0⟩⟩, ⟨⟨0, 0, 0, 0⟩, ⟨0, 0, 0, 0⟩⟩, ⟨⟨0, 0, 0, 0⟩, ⟨0, 0, 0, 0⟩⟩, ⟨⟨0, 0, 0, 0⟩, ⟨0, 0, 0, 0⟩⟩⟩)] [] (Ls.of (.cons .k1 .nil)) Rs.nil 7 (.on 0 .pu (.on 1 .pu (.on 2 .pu (.on 4 .pu (.on 3 .go (.on 5 .pu (.on 6 .go .nl))))))) follows_mixed (.inb (.thn (.thn (.inb (.inb (.thn (.thn (.inb (.thn .body))))))))) (by kernel_rfl) ?_
  refine .dpu rfl (.n rfl) (P.mov .g2) rfl rfl ?_
  refine .dpu rfl (.n rfl) (P.mov .t1) rfl rfl ?_
  refine .dpu rfl (.n rfl) (P.mov .g7) rfl rfl ?_
  refine .dpu rfl (.n rfl) (P.iac (i := 4) .t2 rfl .g5 runUnderlying41 sizeOf39 rfl rfl) rfl rfl ?_
  refine .dgo rfl (.n rfl) (G.call call36 (.cons .t1 .nil) (S_wide_Of a0 _ rfl) .nil .nil (fun _ _ => rfl) (fun _ _ => rfl) rfl) (.inr fun _ _ _ h => (h.imp (Ls.of (.cons .k1 .nil))).ro Rs.nil) fun _ _ => ?_
  refine .dpu rfl (.n rfl) (P.iac (i := 1) .t2 rfl .t1 runUnderlying39 sizeOf30 rfl rfl) rfl rfl ?_
  refine .dgo rfl (.n rfl) (G.str .t1 .t0 .k0 (.mk (cs' := (purse_Book.cs ⟨⟨(wide_Of a0), (wide_Of a0)⟩, ⟨(wide_Of a0), (wide_Of a0)⟩, ⟨(wide_Of a0), (wide_Of a0)⟩, ⟨(wide_Of a0), (wide_Of a0)⟩, ⟨(wide_Of a0), (wide_Of a0)⟩, ⟨⟨0, 0, 0, 0⟩, ⟨0, 0, 0, 0⟩⟩, ⟨⟨0, 0, 0, 0⟩, ⟨0, 0, 0, 0⟩⟩, ⟨⟨0, 0, 0, 0⟩, ⟨0, 0, 0, 0⟩⟩⟩)) sizeOf30 rfl rfl rfl rfl)) (.inr fun _ _ _ h => (h.imp (Ls.of (.cons .k1 .nil))).ro Rs.nil) fun _ _ => ?_
  refine .dnil ?_
  refine .inn ?_
  refine .then ?_
  refine .reg rfl ?_
  refine .opp (P.bin (v := N 2) .g0 .k (.addc (by decide))) rfl ?_
  refine .drop .k1 ?_
  refine .opp (P.mov .t0) rfl ?_
  refine .nil ?_
  refine .then ?_
  refine .rd ?_
  refine .seq ?_
  refine .reg rfl ?_
  refine .opp (P.bin (v := Bo false) .g0 .k (BinV.lss.boolc (by decide))) rfl ?_
  refine .nil ?_
  refine .then ?_
  refine .seq ?_
  refine .condF .t0 ?_
  refine .exit ?_
  refine .thx ?_
  refine .thx ?_
  refine .inb ?_
  refine .inn ?_
  refine .then ?_
  refine .reg rfl ?_
  refine .opp (P.bin (v := N 5) .g2 .k (.addc (by decide))) rfl ?_
  refine .drop .k3 ?_
  refine .opp (P.mov .t0) rfl ?_
  refine .nil ?_
  refine .then ?_
  refine .rd ?_
  refine .seq ?_
  refine .reg rfl ?_
  refine .opp (P.bin (v := Bo true) .g0 .k (BinV.lss.boolc (by decide))) rfl ?_
  refine .nil ?_
  refine .then ?_
  refine .seq ?_
  refine .condT .t0 ?_
  refine .skip ?_
  refine .then ?_
  refine .seq ?_
  refine .block ?_
  refine .seq ?_
  refine .reg rfl ?_
  refine .opp (P.mov .g0) rfl ?_
  refine .drop .k3 ?_
  refine .opp (P.asg .t0) rfl ?_
  refine .nil ?_
  refine .then ?_
  refine .seq ?_
  refine .reg rfl ?_
  refine .drop .k2 ?_
  refine .opp (P.mov .k) rfl ?_
  refine .nil ?_
  refine .then ?_
  refine .block ?_
  refine .rounds 3 ?_
  refine .rd ?_
  refine .seq ?_
  refine .reg rfl ?_
  refine .opp (P.bin (v := Bo true) .g0 .k (BinV.lss.boolc (by decide))) rfl ?_
  refine .nil ?_
  refine .then ?_
  refine .seq ?_
  refine .condT .t0 ?_
  refine .skip ?_
  refine .then ?_
  refine .seq ?_
  refine .block ?_
  refine .seq ?_
  refine .reg rfl ?_
  refine .opp (P.mov .g0) rfl ?_
  refine .opp (P.asg .t0) rfl ?_
  refine .nil ?_
  refine .then ?_
  refine .drawl [blk b1 41 (purse_Book.cs ⟨⟨⟨0, 0, 0, 0⟩, ⟨0, 0, 0, 0⟩⟩, ⟨⟨0, 0, 0, 0⟩, ⟨0, 0, 0, 0⟩⟩, ⟨⟨0, 0, 0, 0⟩, ⟨0, 0, 0, 0⟩⟩, ⟨⟨0, 0, 0, 0⟩, ⟨0, 0, 0, 0⟩⟩, ⟨⟨0, 0, 0, 0⟩, ⟨0, 0, 0, 0⟩⟩, ⟨⟨0, 0, 0, 0⟩, ⟨0, 0, 0, 0⟩⟩, ⟨⟨0, 0, 0, 0⟩, ⟨0, 0, 0, 0⟩⟩, ⟨⟨0, 0, 0, 0⟩, ⟨0, 0, 0, 0⟩⟩⟩)] [] (Ls.of (.cons .k1 .nil)) Rs.nil 7 (.on 0 .pu (.on 1 .pu (.on 2 .pu (.on 4 .pu (.on 3 .go (.on 5 .pu (.on 6 .go .nl))))))) follows_mixed (.inb (.thn (.thn (.inb (.inb (.thn (.thn (.inb (.thn .body))))))))) (by kernel_rfl) ?_
  refine .dpu rfl (.n rfl) (P.mov .g2) rfl rfl ?_
  refine .dpu rfl (.n rfl) (P.mov .t1) rfl rfl ?_
  refine .dpu rfl (.n rfl) (P.mov .g7) rfl rfl ?_
  refine .dpu rfl (.n rfl) (P.iac (i := 5) .t2 rfl .g5 runUnderlying41 sizeOf39 rfl rfl) rfl rfl ?_
  refine .dgo rfl (.n rfl) (G.call call36 (.cons .t1 .nil) (S_wide_Of a0 _ rfl) .nil .nil (fun _ _ => rfl) (fun _ _ => rfl) rfl) (.inr fun _ _ _ h => (h.imp (Ls.of (.cons .k1 .nil))).ro Rs.nil) fun _ _ => ?_
  refine .dpu rfl (.n rfl) (P.iac (i := 0) .t2 rfl .t1 runUnderlying39 sizeOf30 rfl rfl) rfl rfl ?_
  refine .dgo rfl (.n rfl) (G.str .t1 .t0 .k0 (.mk (cs' := (purse_Book.cs ⟨⟨(wide_Of a0), (wide_Of a0)⟩, ⟨(wide_Of a0), (wide_Of a0)⟩, ⟨(wide_Of a0), (wide_Of a0)⟩, ⟨(wide_Of a0), (wide_Of a0)⟩, ⟨(wide_Of a0), (wide_Of a0)⟩, ⟨(wide_Of a0), ⟨0, 0, 0, 0⟩⟩, ⟨⟨0, 0, 0, 0⟩, ⟨0, 0, 0, 0⟩⟩, ⟨⟨0, 0, 0, 0⟩, ⟨0, 0, 0, 0⟩⟩⟩)) sizeOf30 rfl rfl rfl rfl)) (.inr fun _ _ _ h => (h.imp (Ls.of (.cons .k1 .nil))).ro Rs.nil) fun _ _ => ?_
  refine .dnil ?_
  refine .inn ?_
  refine .then ?_
  refine .reg rfl ?_
  refine .opp (P.bin (v := N 1) .g0 .k (.addc (by decide))) rfl ?_
  refine .drop .k1 ?_
  refine .opp (P.mov .t0) rfl ?_
  refine .nil ?_
  refine .then ?_
  refine .rd ?_
  refine .seq ?_
  refine .reg rfl ?_
  refine .opp (P.bin (v := Bo true) .g0 .k (BinV.lss.boolc (by decide))) rfl ?_
  refine .nil ?_
  refine .then ?_
  refine .seq ?_
  refine .condT .t0 ?_
  refine .skip ?_
  refine .then ?_
  refine .seq ?_
  refine .block ?_
  refine .seq ?_
  refine .reg rfl ?_
  refine .opp (P.mov .g0) rfl ?_
  refine .opp (P.asg .t0) rfl ?_
  refine .nil ?_
  refine .then ?_
  refine .drawl [blk b1 41 (purse_Book.cs ⟨⟨⟨0, 0, 0, 0⟩, ⟨0, 0, 0, 0⟩⟩, ⟨⟨0, 0, 0, 0⟩, ⟨0, 0, 0, 0⟩⟩, ⟨⟨0, 0, 0, 0⟩, ⟨0, 0, 0, 0⟩⟩, ⟨⟨0, 0, 0, 0⟩, ⟨0, 0, 0, 0⟩⟩, ⟨⟨0, 0, 0, 0⟩, ⟨0, 0, 0, 0⟩⟩, ⟨⟨0, 0, 0, 0⟩, ⟨0, 0, 0, 0⟩⟩, ⟨⟨0, 0, 0, 0⟩, ⟨0, 0, 0, 0⟩⟩, ⟨⟨0, 0, 0, 0⟩, ⟨0, 0, 0, 0⟩⟩⟩)] [] (Ls.of (.cons .k1 .nil)) Rs.nil 7 (.on 0 .pu (.on 1 .pu (.on 2 .pu (.on 4 .pu (.on 3 .go (.on 5 .pu (.on 6 .go .nl))))))) follows_mixed (.inb (.thn (.thn (.inb (.inb (.thn (.thn (.inb (.thn .body))))))))) (by kernel_rfl) ?_
  refine .dpu rfl (.n rfl) (P.mov .g2) rfl rfl ?_
  refine .dpu rfl (.n rfl) (P.mov .t1) rfl rfl ?_
  refine .dpu rfl (.n rfl) (P.mov .g7) rfl rfl ?_
  refine .dpu rfl (.n rfl) (P.iac (i := 5) .t2 rfl .g5 runUnderlying41 sizeOf39 rfl rfl) rfl rfl ?_
  refine .dgo rfl (.n rfl) (G.call call36 (.cons .t1 .nil) (S_wide_Of a0 _ rfl) .nil .nil (fun _ _ => rfl) (fun _ _ => rfl) rfl) (.inr fun _ _ _ h => (h.imp (Ls.of (.cons .k1 .nil))).ro Rs.nil) fun _ _ => ?_
  refine .dpu rfl (.n rfl) (P.iac (i := 1) .t2 rfl .t1 runUnderlying39 sizeOf30 rfl rfl) rfl rfl ?_
  refine .dgo rfl (.n rfl) (G.str .t1 .t0 .k0 (.mk (cs' := (purse_Book.cs ⟨⟨(wide_Of a0), (wide_Of a0)⟩, ⟨(wide_Of a0), (wide_Of a0)⟩, ⟨(wide_Of a0), (wide_Of a0)⟩, ⟨(wide_Of a0), (wide_Of a0)⟩, ⟨(wide_Of a0), (wide_Of a0)⟩, ⟨(wide_Of a0), (wide_Of a0)⟩, ⟨⟨0, 0, 0, 0⟩, ⟨0, 0, 0, 0⟩⟩, ⟨⟨0, 0, 0, 0⟩, ⟨0, 0, 0, 0⟩⟩⟩)) sizeOf30 rfl rfl rfl rfl)) (.inr fun _ _ _ h => (h.imp (Ls.of (.cons .k1 .nil))).ro Rs.nil) fun _ _ => ?_
  refine .dnil ?_
  refine .inn ?_
  refine .then ?_
  refine .reg rfl ?_
  refine .opp (P.bin (v := N 2) .g0 .k (.addc (by decide))) rfl ?_
  refine .drop .k1 ?_
  refine .opp (P.mov .t0) rfl ?_
  refine .nil ?_
  refine .then ?_
  refine .rd ?_
  refine .seq ?_
  refine .reg rfl ?_
  refine .opp (P.bin (v := Bo false) .g0 .k (BinV.lss.boolc (by decide))) rfl ?_
  refine .nil ?_
  refine .then ?_
  refine .seq ?_
  refine .condF .t0 ?_
  refine .exit ?_
  refine .thx ?_
  refine .thx ?_
  refine .inb ?_
  refine .inn ?_
  refine .then ?_
  refine .reg rfl ?_
  refine .opp (P.bin (v := N 6) .g2 .k (.addc (by decide))) rfl ?_
  refine .drop .k3 ?_
  refine .opp (P.mov .t0) rfl ?_
  refine .nil ?_
  refine .then ?_
  refine .rd ?_
  refine .seq ?_
  refine .reg rfl ?_
  refine .opp (P.bin (v := Bo true) .g0 .k (BinV.lss.boolc (by decide))) rfl ?_
  refine .nil ?_
  refine .then ?_
  refine .seq ?_
  refine .condT .t0 ?_
  refine .skip ?_
  refine .then ?_
  refine .seq ?_
  refine .block ?_
  refine .seq ?_
  refine .reg rfl ?_
  refine .opp (P.mov .g0) rfl ?_
  refine .drop .k3 ?_
  refine .opp (P.asg .t0) rfl ?_
  refine .nil ?_
  refine .then ?_
  refine .seq ?_
  refine .reg rfl ?_
  refine .drop .k2 ?_
  refine .opp (P.mov .k) rfl ?_
  refine .nil ?_
  refine .then ?_
  refine .block ?_
  refine .rounds 3 ?_
  refine .rd ?_
  refine .seq ?_
  refine .reg rfl ?_
  refine .opp (P.bin (v := Bo true) .g0 .k (BinV.lss.boolc (by decide))) rfl ?_
  refine .nil ?_
  refine .then ?_
  refine .seq ?_
  refine .condT .t0 ?_
  refine .skip ?_
  refine .then ?_
  refine .seq ?_
  refine .block ?_
  refine .seq ?_
  refine .reg rfl ?_
  refine .opp (P.mov .g0) rfl ?_
  refine .opp (P.asg .t0) rfl ?_
  refine .nil ?_
  refine .then ?_
  refine .drawl [blk b1 41 (purse_Book.cs ⟨⟨⟨0, 0, 0, 0⟩, ⟨0, 0, 0, 0⟩⟩, ⟨⟨0, 0, 0, 0⟩, ⟨0, 0, 0, 0⟩⟩, ⟨⟨0, 0, 0, 0⟩, ⟨0, 0, 0, 0⟩⟩, ⟨⟨0, 0, 0, 0⟩, ⟨0, 0, 0, 0⟩⟩, ⟨⟨0, 0, 0, 0⟩, ⟨0, 0, 0, 0⟩⟩, ⟨⟨0, 0, 0, 0⟩, ⟨0, 0, 0, 0⟩⟩, ⟨⟨0, 0, 0, 0⟩, ⟨0, 0, 0, 0⟩⟩, ⟨⟨0, 0, 0, 0⟩, ⟨0, 0, 0, 0⟩⟩⟩)] [] (Ls.of (.cons .k1 .nil)) Rs.nil 7 (.on 0 .pu (.on 1 .pu (.on 2 .pu (.on 4 .pu (.on 3 .go (.on 5 .pu (.on 6 .go .nl))))))) follows_mixed (.inb (.thn (.thn (.inb (.inb (.thn (.thn (.inb (.thn .body))))))))) (by kernel_rfl) ?_
  refine .dpu rfl (.n rfl) (P.mov .g2) rfl rfl ?_
  refine .dpu rfl (.n rfl) (P.mov .t1) rfl rfl ?_
  refine .dpu rfl (.n rfl) (P.mov .g7) rfl rfl ?_
  refine .dpu rfl (.n rfl) (P.iac (i := 6) .t2 rfl .g5 runUnderlying41 sizeOf39 rfl rfl) rfl rfl ?_
  refine .dgo rfl (.n rfl) (G.call call36 (.cons .t1 .nil) (S_wide_Of a0 _ rfl) .nil .nil (fun _ _ => rfl) (fun _ _ => rfl) rfl) (.inr fun _ _ _ h => (h.imp (Ls.of (.cons .k1 .nil))).ro Rs.nil) fun _ _ => ?_
  refine .dpu rfl (.n rfl) (P.iac (i := 0) .t2 rfl .t1 runUnderlying39 sizeOf30 rfl rfl) rfl rfl ?_
  refine .dgo rfl (.n rfl) (G.str .t1 .t0 .k0 (.mk (cs' := (purse_Book.cs ⟨⟨(wide_Of a0), (wide_Of a0)⟩, ⟨(wide_Of a0), (wide_Of a0)⟩, ⟨(wide_Of a0), (wide_Of a0)⟩, ⟨(wide_Of a0), (wide_Of a0)⟩, ⟨(wide_Of a0), (wide_Of a0)⟩, ⟨(wide_Of a0), (wide_Of a0)⟩, ⟨(wide_Of a0), ⟨0, 0, 0, 0⟩⟩, ⟨⟨0, 0, 0, 0⟩, ⟨0, 0, 0, 0⟩⟩⟩)) sizeOf30 rfl rfl rfl rfl)) (.inr fun _ _ _ h => (h.imp (Ls.of (.cons .k1 .nil))).ro Rs.nil) fun _ _ => ?_
  refine .dnil ?_
  refine .inn ?_
  refine .then ?_
  refine .reg rfl ?_
  refine .opp (P.bin (v := N 1) .g0 .k (.addc (by decide))) rfl ?_
  refine .drop .k1 ?_
  refine .opp (P.mov .t0) rfl ?_
  refine .nil ?_
  refine .then ?_
  refine .rd ?_
  refine .seq ?_
  refine .reg rfl ?_
  refine .opp (P.bin (v := Bo true) .g0 .k (BinV.lss.boolc (by decide))) rfl ?_
  refine .nil ?_
  refine .then ?_
  refine .seq ?_
  refine .condT .t0 ?_
  refine .skip ?_
  refine .then ?_
  refine .seq ?_
  refine .block ?_
  refine .seq ?_
  refine .reg rfl ?_
  refine .opp (P.mov .g0) rfl ?_
  refine .opp (P.asg .t0) rfl ?_
  refine .nil ?_
  refine .then ?_
  refine .drawl [blk b1 41 (purse_Book.cs ⟨⟨⟨0, 0, 0, 0⟩, ⟨0, 0, 0, 0⟩⟩, ⟨⟨0, 0, 0, 0⟩, ⟨0, 0, 0, 0⟩⟩, ⟨⟨0, 0, 0, 0⟩, ⟨0, 0, 0, 0⟩⟩, ⟨⟨0, 0, 0, 0⟩, ⟨0, 0, 0, 0⟩⟩, ⟨⟨0, 0, 0, 0⟩, ⟨0, 0, 0, 0⟩⟩, ⟨⟨0, 0, 0, 0⟩, ⟨0, 0, 0, 0⟩⟩, ⟨⟨0, 0, 0, 0⟩, ⟨0, 0, 0, 0⟩⟩, ⟨⟨0, 0, 0, 0⟩, ⟨0, 0, 0, 0⟩⟩⟩)] [] (Ls.of (.cons .k1 .nil)) Rs.nil 7 (.on 0 .pu (.on 1 .pu (.on 2 .pu (.on 4 .pu (.on 3 .go (.on 5 .pu (.on 6 .go .nl))))))) follows_mixed (.inb (.thn (.thn (.inb (.inb (.thn (.thn (.inb (.thn .body))))))))) (by kernel_rfl) ?_
  refine .dpu rfl (.n rfl) (P.mov .g2) rfl rfl ?_
  refine .dpu rfl (.n rfl) (P.mov .t1) rfl rfl ?_
  refine .dpu rfl (.n rfl) (P.mov .g7) rfl rfl ?_
  refine .dpu rfl (.n rfl) (P.iac (i := 6) .t2 rfl .g5 runUnderlying41 sizeOf39 rfl rfl) rfl rfl ?_
  refine .dgo rfl (.n rfl) (G.call call36 (.cons .t1 .nil) (S_wide_Of a0 _ rfl) .nil .nil (fun _ _ => rfl) (fun _ _ => rfl) rfl) (.inr fun _ _ _ h => (h.imp (Ls.of (.cons .k1 .nil))).ro Rs.nil) fun _ _ => ?_
  refine .dpu rfl (.n rfl) (P.iac (i := 1) .t2 rfl .t1 runUnderlying39 sizeOf30 rfl rfl) rfl rfl ?_
  refine .dgo rfl (.n rfl) (G.str .t1 .t0 .k0 (.mk (cs' := (purse_Book.cs ⟨⟨(wide_Of a0), (wide_Of a0)⟩, ⟨(wide_Of a0), (wide_Of a0)⟩, ⟨(wide_Of a0), (wide_Of a0)⟩, ⟨(wide_Of a0), (wide_Of a0)⟩, ⟨(wide_Of a0), (wide_Of a0)⟩, ⟨(wide_Of a0), (wide_Of a0)⟩, ⟨(wide_Of a0), (wide_Of a0)⟩, ⟨⟨0, 0, 0, 0⟩, ⟨0, 0, 0, 0⟩⟩⟩)) sizeOf30 rfl rfl rfl rfl)) (.inr fun _ _ _ h => (h.imp (Ls.of (.cons .k1 .nil))).ro Rs.nil) fun _ _ => ?_
  refine .dnil ?_
  refine .inn ?_
  refine .then ?_
  refine .reg rfl ?_
  refine .opp (P.bin (v := N 2) .g0 .k (.addc (by decide))) rfl ?_
  refine .drop .k1 ?_
  refine .opp (P.mov .t0) rfl ?_
  refine .nil ?_
  refine .then ?_
  refine .rd ?_
  refine .seq ?_
  refine .reg rfl ?_
  refine .opp (P.bin (v := Bo false) .g0 .k (BinV.lss.boolc (by decide))) rfl ?_
  refine .nil ?_
  refine .then ?_
  refine .seq ?_
  refine .condF .t0 ?_
  refine .exit ?_
  refine .thx ?_
  refine .thx ?_
  refine .inb ?_
  refine .inn ?_
  refine .then ?_
  refine .reg rfl ?_
  refine .opp (P.bin (v := N 7) .g2 .k (.addc (by decide))) rfl ?_
  refine .drop .k3 ?_
  refine .opp (P.mov .t0) rfl ?_
  refine .nil ?_
  refine .then ?_
  refine .rd ?_
  refine .seq ?_
  refine .reg rfl ?_
  refine .opp (P.bin (v := Bo true) .g0 .k (BinV.lss.boolc (by decide))) rfl ?_
  refine .nil ?_
  refine .then ?_
  refine .seq ?_
  refine .condT .t0 ?_
  refine .skip ?_
  refine .then ?_
  refine .seq ?_
  refine .block ?_
  refine .seq ?_
  refine .reg rfl ?_
  refine .opp (P.mov .g0) rfl ?_
  refine .drop .k3 ?_
  refine .opp (P.asg .t0) rfl ?_
  refine .nil ?_
  refine .then ?_
  refine .seq ?_
  refine .reg rfl ?_
  refine .drop .k2 ?_
  refine .opp (P.mov .k) rfl ?_
  refine .nil ?_
  refine .then ?_
  refine .block ?_
  refine .rounds 3 ?_
  refine .rd ?_
  refine .seq ?_
  refine .reg rfl ?_
  refine .opp (P.bin (v := Bo true) .g0 .k (BinV.lss.boolc (by decide))) rfl ?_
  refine .nil ?_
  refine .then ?_
  refine .seq ?_
  refine .condT .t0 ?_
  refine .skip ?_
  refine .then ?_
  refine .seq ?_
  refine .block ?_
  refine .seq ?_
  refine .reg rfl ?_
  refine .opp (P.mov .g0) rfl ?_
  refine .opp (P.asg .t0) rfl ?_
  refine .nil ?_
  refine .then ?_
  refine .drawl [blk b1 41 (purse_Book.cs ⟨⟨⟨0, 0, 0, 0⟩, ⟨0, 0, 0, 0⟩⟩, ⟨⟨0, 0, 0, 0⟩, ⟨0, 0, 0, 0⟩⟩, ⟨⟨0, 0, 0, 0⟩, ⟨0, 0, 0, 0⟩⟩, ⟨⟨0, 0, 0, 0⟩, ⟨0, 0, 0, 0⟩⟩, ⟨⟨0, 0, 0, 0⟩, ⟨0, 0, 0, 0⟩⟩, ⟨⟨0, 0, 0, 0⟩, ⟨0, 0, 0, 0⟩⟩, ⟨⟨0, 0, 0, 0⟩, ⟨0, 0, 0, 0⟩⟩, ⟨⟨0, 0, 0, 0⟩, ⟨0, 0, 0, 0⟩⟩⟩)] [] (Ls.of (.cons .k1 .nil)) Rs.nil 7 (.on 0 .pu (.on 1 .pu (.on 2 .pu (.on 4 .pu (.on 3 .go (.on 5 .pu (.on 6 .go .nl))))))) follows_mixed (.inb (.thn (.thn (.inb (.inb (.thn (.thn (.inb (.thn .body))))))))) (by kernel_rfl) ?_
  refine .dpu rfl (.n rfl) (P.mov .g2) rfl rfl ?_
  refine .dpu rfl (.n rfl) (P.mov .t1) rfl rfl ?_
  refine .dpu rfl (.n rfl) (P.mov .g7) rfl rfl ?_
  refine .dpu rfl (.n rfl) (P.iac (i := 7) .t2 rfl .g5 runUnderlying41 sizeOf39 rfl rfl) rfl rfl ?_
  refine .dgo rfl (.n rfl) (G.call call36 (.cons .t1 .nil) (S_wide_Of a0 _ rfl) .nil .nil (fun _ _ => rfl) (fun _ _ => rfl) rfl) (.inr fun _ _ _ h => (h.imp (Ls.of (.cons .k1 .nil))).ro Rs.nil) fun _ _ => ?_
  refine .dpu rfl (.n rfl) (P.iac (i := 0) .t2 rfl .t1 runUnderlying39 sizeOf30 rfl rfl) rfl rfl ?_
  refine .dgo rfl (.n rfl) (G.str .t1 .t0 .k0 (.mk (cs' := (purse_Book.cs ⟨⟨(wide_Of a0), (wide_Of a0)⟩, ⟨(wide_Of a0), (wide_Of a0)⟩, ⟨(wide_Of a0), (wide_Of a0)⟩, ⟨(wide_Of a0), (wide_Of a0)⟩, ⟨(wide_Of a0), (wide_Of a0)⟩, ⟨(wide_Of a0), (wide_Of a0)⟩, ⟨(wide_Of a0), (wide_Of a0)⟩, ⟨(wide_Of a0), ⟨0, 0, 0, 0⟩⟩⟩)) sizeOf30 rfl rfl rfl rfl)) (.inr fun _ _ _ h => (h.imp (Ls.of (.cons .k1 .nil))).ro Rs.nil) fun _ _ => ?_
  refine .dnil ?_
  refine .inn ?_
  refine .then ?_
  refine .reg rfl ?_
  refine .opp (P.bin (v := N 1) .g0 .k (.addc (by decide))) rfl ?_
  refine .drop .k1 ?_
  refine .opp (P.mov .t0) rfl ?_
  refine .nil ?_
  refine .then ?_
  refine .rd ?_
  refine .seq ?_
  refine .reg rfl ?_
  refine .opp (P.bin (v := Bo true) .g0 .k (BinV.lss.boolc (by decide))) rfl ?_
  refine .nil ?_
  refine .then ?_
  refine .seq ?_
  refine .condT .t0 ?_
  refine .skip ?_
  refine .then ?_
  refine .seq ?_
  refine .block ?_
  refine .seq ?_
  refine .reg rfl ?_
  refine .opp (P.mov .g0) rfl ?_
  refine .opp (P.asg .t0) rfl ?_
  refine .nil ?_
  refine .then ?_
  refine .drawl [blk b1 41 (purse_Book.cs ⟨⟨⟨0, 0, 0, 0⟩, ⟨0, 0, 0, 0⟩⟩, ⟨⟨0, 0, 0, 0⟩, ⟨0, 0, 0, 0⟩⟩, ⟨⟨0, 0, 0, 0⟩, ⟨0, 0, 0, 0⟩⟩, ⟨⟨0, 0, 0, 0⟩, ⟨0, 0, 0, 0⟩⟩, ⟨⟨0, 0, 0, 0⟩, ⟨0, 0, 0, 0⟩⟩, ⟨⟨0, 0, 0, 0⟩, ⟨0, 0, 0, 0⟩⟩, ⟨⟨0, 0, 0, 0⟩, ⟨0, 0, 0, 0⟩⟩, ⟨⟨0, 0, 0, 0⟩, ⟨0, 0, 0, 0⟩⟩⟩)] [] (Ls.of (.cons .k1 .nil)) Rs.nil 7 (.on 0 .pu (.on 1 .pu (.on 2 .pu (.on 4 .pu (.on 3 .go (.on 5 .pu (.on 6 .go .nl))))))) follows_mixed (.inb (.thn (.thn (.inb (.inb (.thn (.thn (.inb (.thn .body))))))))) (by kernel_rfl) ?_
  refine .dpu rfl (.n rfl) (P.mov .g2) rfl rfl ?_
  refine .dpu rfl (.n rfl) (P.mov .t1) rfl rfl ?_
  refine .dpu rfl (.n rfl) (P.mov .g7) rfl rfl ?_
  refine .dpu rfl (.n rfl) (P.iac (i := 7) .t2 rfl .g5 runUnderlying41 sizeOf39 rfl rfl) rfl rfl ?_
  refine .dgo rfl (.n rfl) (G.call call36 (.cons .t1 .nil) (S_wide_Of a0 _ rfl) .nil .nil (fun _ _ => rfl) (fun _ _ => rfl) rfl) (.inr fun _ _ _ h => (h.imp (Ls.of (.cons .k1 .nil))).ro Rs.nil) fun _ _ => ?_
  refine .dpu rfl (.n rfl) (P.iac (i := 1) .t2 rfl .t1 runUnderlying39 sizeOf30 rfl rfl) rfl rfl ?_
  refine .dgo rfl (.n rfl) (G.str .t1 .t0 .k0 (.mk (cs' := (purse_Book.cs ⟨⟨(wide_Of a0), (wide_Of a0)⟩, ⟨(wide_Of a0), (wide_Of a0)⟩, ⟨(wide_Of a0), (wide_Of a0)⟩, ⟨(wide_Of a0), (wide_Of a0)⟩, ⟨(wide_Of a0), (wide_Of a0)⟩, ⟨(wide_Of a0), (wide_Of a0)⟩, ⟨(wide_Of a0), (wide_Of a0)⟩, ⟨(wide_Of a0), (wide_Of a0)⟩⟩)) sizeOf30 rfl rfl rfl rfl)) (.inr fun _ _ _ h => (h.imp (Ls.of (.cons .k1 .nil))).ro Rs.nil) fun _ _ => ?_
  refine .dnil ?_
  refine .inn ?_
  refine .then ?_
  refine .reg rfl ?_
  refine .opp (P.bin (v := N 2) .g0 .k (.addc (by decide))) rfl ?_
  refine .drop .k1 ?_
  refine .opp (P.mov .t0) rfl ?_
  refine .nil ?_
  refine .then ?_
  refine .rd ?_
  refine .seq ?_
  refine .reg rfl ?_
  refine .opp (P.bin (v := Bo false) .g0 .k (BinV.lss.boolc (by decide))) rfl ?_
  refine .nil ?_
  refine .then ?_
  refine .seq ?_
  refine .condF .t0 ?_
  refine .exit ?_
  refine .thx ?_
  refine .thx ?_
  refine .inb ?_
  refine .inn ?_
  refine .then ?_
  refine .reg rfl ?_
  refine .opp (P.bin (v := N 8) .g2 .k (.addc (by decide))) rfl ?_
  refine .drop .k3 ?_
  refine .opp (P.mov .t0) rfl ?_
  refine .nil ?_
  refine .then ?_
  refine .rd ?_
  refine .seq ?_
  refine .reg rfl ?_
  refine .opp (P.bin (v := Bo false) .g0 .k (BinV.lss.boolc (by decide))) rfl ?_
  refine .nil ?_
  refine .then ?_
  refine .seq ?_
  refine .condF .t0 ?_
  refine .exit ?_
  refine .thx ?_
  refine .thx ?_
  refine .inb ?_
  refine .then ?_
  refine .seq ?_
  refine .reg rfl ?_
  refine .op (V.ld (v := Ag (purse_Book.cs ⟨⟨(wide_Of a0), (wide_Of a0)⟩, ⟨(wide_Of a0), (wide_Of a0)⟩, ⟨(wide_Of a0), (wide_Of a0)⟩, ⟨(wide_Of a0), (wide_Of a0)⟩, ⟨(wide_Of a0), (wide_Of a0)⟩, ⟨(wide_Of a0), (wide_Of a0)⟩, ⟨(wide_Of a0), (wide_Of a0)⟩, ⟨(wide_Of a0), (wide_Of a0)⟩⟩)) .t3 .k0 (.agg isAgg41 sizeOf41 rfl rfl)) rfl ?_
  refine .opg (G.str .t0 .g3 .k1 (.mk (cs' := (purse_Book.cs ⟨⟨(wide_Of a0), (wide_Of a0)⟩, ⟨(wide_Of a0), (wide_Of a0)⟩, ⟨(wide_Of a0), (wide_Of a0)⟩, ⟨(wide_Of a0), (wide_Of a0)⟩, ⟨(wide_Of a0), (wide_Of a0)⟩, ⟨(wide_Of a0), (wide_Of a0)⟩, ⟨(wide_Of a0), (wide_Of a0)⟩, ⟨(wide_Of a0), (wide_Of a0)⟩⟩)) sizeOf41 rfl rfl rfl rfl)) rfl fun _ _ => ?_
  refine .nil ?_
  refine .then ?_
  refine .ret ?_
  subst h
  exact .finw () (.r1 rfl (.cell .g3 .k0 (.agg isAgg41 sizeOf41 rfl rfl))) trivial (Ls.of .nil) .nil
attribute [irreducible] purse_Even
noncomputable def escrow_Genesis (a0 : Int) (a1 : Int) : escrow_State :=
  (⟨if 1 < (if 0 > a0 then 0 else a0) then 1 else if 0 > a0 then 0 else a0, if 1099511627776 < (if 0 > a1 then 0 else a1) then 1099511627776 else if 0 > a1 then 0 else a1, (purse_Even 1000), ⟨⟨⟨0, 0, 0, 0⟩, ⟨0, 0, 0, 0⟩⟩, ⟨⟨0, 0, 0, 0⟩, ⟨0, 0, 0, 0⟩⟩, ⟨⟨0, 0, 0, 0⟩, ⟨0, 0, 0, 0⟩⟩, ⟨⟨0, 0, 0, 0⟩, ⟨0, 0, 0, 0⟩⟩, ⟨⟨0, 0, 0, 0⟩, ⟨0, 0, 0, 0⟩⟩, ⟨⟨0, 0, 0, 0⟩, ⟨0, 0, 0, 0⟩⟩, ⟨⟨0, 0, 0, 0⟩, ⟨0, 0, 0, 0⟩⟩, ⟨⟨0, 0, 0, 0⟩, ⟨0, 0, 0, 0⟩⟩⟩, ⟨0, 0, 0, 0, 0, 0, 0, 0⟩, ⟨⟨0, 0, 0, 0⟩, ⟨0, 0, 0, 0⟩⟩, ⟨0, 0, 0, 0⟩, []⟩ : escrow_State)
set_option maxRecDepth 20000 in
set_option maxHeartbeats 1000000 in
theorem S_escrow_Genesis (a0 : Int) (a1 : Int) (r : escrow_State) (h : escrow_Genesis a0 a1 = r) :
    SpecF Tryz.prog 23 [N a0, N a1] [] [] (fun z : Value => True) (fun z => Ag (escrow_State.cs r z)) (fun z M => lst 76 3 z (r.Locks.map escrow_Lock.cs) ::  M) (fun z M =>  M) := by
  refine .of func23 rfl ntmps23 rfl fun w0 D0 G0 => ?_
  unfold escrow_Genesis at h
  refine .seq ?_
  refine .reg rfl ?_
  refine .opx (X.alc (cs := (escrow_State.cs ⟨0, 0, ⟨⟨⟨0, 0, 0, 0⟩, ⟨0, 0, 0, 0⟩⟩, ⟨⟨0, 0, 0, 0⟩, ⟨0, 0, 0, 0⟩⟩, ⟨⟨0, 0, 0, 0⟩, ⟨0, 0, 0, 0⟩⟩, ⟨⟨0, 0, 0, 0⟩, ⟨0, 0, 0, 0⟩⟩, ⟨⟨0, 0, 0, 0⟩, ⟨0, 0, 0, 0⟩⟩, ⟨⟨0, 0, 0, 0⟩, ⟨0, 0, 0, 0⟩⟩, ⟨⟨0, 0, 0, 0⟩, ⟨0, 0, 0, 0⟩⟩, ⟨⟨0, 0, 0, 0⟩, ⟨0, 0, 0, 0⟩⟩⟩, ⟨⟨⟨0, 0, 0, 0⟩, ⟨0, 0, 0, 0⟩⟩, ⟨⟨0, 0, 0, 0⟩, ⟨0, 0, 0, 0⟩⟩, ⟨⟨0, 0, 0, 0⟩, ⟨0, 0, 0, 0⟩⟩, ⟨⟨0, 0, 0, 0⟩, ⟨0, 0, 0, 0⟩⟩, ⟨⟨0, 0, 0, 0⟩, ⟨0, 0, 0, 0⟩⟩, ⟨⟨0, 0, 0, 0⟩, ⟨0, 0, 0, 0⟩⟩, ⟨⟨0, 0, 0, 0⟩, ⟨0, 0, 0, 0⟩⟩, ⟨⟨0, 0, 0, 0⟩, ⟨0, 0, 0, 0⟩⟩⟩, ⟨0, 0, 0, 0, 0, 0, 0, 0⟩, ⟨⟨0, 0, 0, 0⟩, ⟨0, 0, 0, 0⟩⟩, ⟨0, 0, 0, 0⟩, []⟩ nilSl)) zeroValue45 rfl) rfl fun b1 => ?_
  refine .nil ?_
  refine .then ?_
  refine .seq ?_
  refine .reg rfl ?_
  refine .opp (P.mov .t1) rfl ?_
  refine .opp (P.max2 .t0 .k) rfl ?_
  refine .opp (P.min2 .t0 .k) rfl ?_
  refine .opp (P.mov .t2) rfl ?_
  refine .opp (P.max2 .t0 .k) rfl ?_
  refine .opp (P.min2 .t0 .k) rfl ?_
  refine .opg (G.call call41 (.cons .k .nil) (S_purse_Even 1000 _ rfl) .nil .nil (fun _ _ => rfl) (fun _ _ => rfl) rfl) rfl fun _ _ => ?_
  refine .opp (P.bld (v := Ag (escrow_State.cs ⟨if 1 < (if 0 > a0 then 0 else a0) then 1 else if 0 > a0 then 0 else a0, if 1099511627776 < (if 0 > a1 then 0 else a1) then 1099511627776 else if 0 > a1 then 0 else a1, (purse_Even 1000), ⟨⟨⟨0, 0, 0, 0⟩, ⟨0, 0, 0, 0⟩⟩, ⟨⟨0, 0, 0, 0⟩, ⟨0, 0, 0, 0⟩⟩, ⟨⟨0, 0, 0, 0⟩, ⟨0, 0, 0, 0⟩⟩, ⟨⟨0, 0, 0, 0⟩, ⟨0, 0, 0, 0⟩⟩, ⟨⟨0, 0, 0, 0⟩, ⟨0, 0, 0, 0⟩⟩, ⟨⟨0, 0, 0, 0⟩, ⟨0, 0, 0, 0⟩⟩, ⟨⟨0, 0, 0, 0⟩, ⟨0, 0, 0, 0⟩⟩, ⟨⟨0, 0, 0, 0⟩, ⟨0, 0, 0, 0⟩⟩⟩, ⟨0, 0, 0, 0, 0, 0, 0, 0⟩, ⟨⟨0, 0, 0, 0⟩, ⟨0, 0, 0, 0⟩⟩, ⟨0, 0, 0, 0⟩, []⟩ nilSl)) (.cons .t2 (.cons .t1 (.cons .t0 .nil))) (bld_run zeroValue45 runUnderlying45 pl_45 (by kernel_rfl))) rfl ?_
  refine .opg (G.str .t0 .g0 .k0 (.mk (cs' := (escrow_State.cs ⟨if 1 < (if 0 > a0 then 0 else a0) then 1 else if 0 > a0 then 0 else a0, if 1099511627776 < (if 0 > a1 then 0 else a1) then 1099511627776 else if 0 > a1 then 0 else a1, (purse_Even 1000), ⟨⟨⟨0, 0, 0, 0⟩, ⟨0, 0, 0, 0⟩⟩, ⟨⟨0, 0, 0, 0⟩, ⟨0, 0, 0, 0⟩⟩, ⟨⟨0, 0, 0, 0⟩, ⟨0, 0, 0, 0⟩⟩, ⟨⟨0, 0, 0, 0⟩, ⟨0, 0, 0, 0⟩⟩, ⟨⟨0, 0, 0, 0⟩, ⟨0, 0, 0, 0⟩⟩, ⟨⟨0, 0, 0, 0⟩, ⟨0, 0, 0, 0⟩⟩, ⟨⟨0, 0, 0, 0⟩, ⟨0, 0, 0, 0⟩⟩, ⟨⟨0, 0, 0, 0⟩, ⟨0, 0, 0, 0⟩⟩⟩, ⟨0, 0, 0, 0, 0, 0, 0, 0⟩, ⟨⟨0, 0, 0, 0⟩, ⟨0, 0, 0, 0⟩⟩, ⟨0, 0, 0, 0⟩, []⟩ nilSl)) sizeOf45 rfl (onez_45 _ rfl) rfl rfl)) rfl fun _ _ => ?_
  refine .nil ?_
  refine .then ?_
  refine .ret ?_
  subst h
  refine .lnil 76 3 ?_
  exact .finw nilSl (.r1 rfl (.cell .g0 .k1 (.agg isAgg45 sizeOf45 rfl rfl))) trivial (Ls.of (.cons .k0 .nil)) .nil
attribute [irreducible] escrow_Genesis
noncomputable def slices_Clone_escrow_Lock (a0 : List escrow_Lock) : Option ((List escrow_Lock)) :=
  grd ((([] : List escrow_Lock).length + a0.length) * 40 ≤ 140737488355328) <| some ((([] : List escrow_Lock) ++ a0))
set_option maxRecDepth 20000 in
set_option maxHeartbeats 1000000 in
theorem S_slices_Clone_escrow_Lock (v00 : Value) (a0 : List escrow_Lock) (r : (List escrow_Lock)) (h : slices_Clone_escrow_Lock a0 = some r) :
    SpecF Tryz.prog 32 [v00] [] [rows 3 v00 (a0.map escrow_Lock.cs)] (fun z : Value => True) (fun z => z) (fun z M => lst 76 3 z (r.map escrow_Lock.cs) ::  M) (fun z M =>  M) := by
  refine .of func32 rfl ntmps32 rfl fun w0 D0 G0 => ?_
  unfold slices_Clone_escrow_Lock at h
  refine .seq ?_
  refine .reg rfl ?_
  refine .op0 (OpP.toV (P.asg .k)) rfl ?_
  refine .nil ?_
  refine .then ?_
  refine .seq ?_
  refine .seq ?_
  refine .reg rfl ?_
  refine .opp (P.mov .g0) rfl ?_
  refine .opg (G.nilr (e := 76) .t0 Mm.m0 (by kernel_rfl) rfl) rfl fun n1 hz2 => ?_
  refine .nil ?_
  refine .then ?_
  refine .cond .t0 (fun c3 => ?_) (fun c3 => ?_)
  · have hx7 : a0 = [] := by simpa using hz2 c3
    replace h : some ([] : List escrow_Lock) = some r := by rw [hx7] at h; simpa [grd] using h
    refine .seq ?_
    refine .reg rfl ?_
    refine .opp (P.asg .k) rfl ?_
    refine .nil ?_
    refine .then ?_
    refine .ret ?_
    refine .thr ?_
    cases h
    refine .lnil 76 3 ?_
    exact .finw nilSl (.r1 rfl (.tmp .g0)) trivial (Ls.of (.cons .k0 .nil)) .nil
  · refine .skip ?_
    refine .then ?_
    refine .seq ?_
    refine .reg rfl ?_
    refine .opg (G.bsl0 runUnderlying43 sizeOf76 rfl) rfl fun u4 _ => ?_
    refine .opp (P.mov .t1) rfl ?_
    obtain ⟨hb6, h⟩ := grd_eq h
    refine .opg (G.app (by_ := 40) .t1 .t0 .k0 (.inl Mm.m0) runUnderlying43 runUnderlying43 sizeOf76 typeInfo76 rfl rfl zeroValue76 rfl (one_map one_76 _) (by simpa using hb6) rfl) rfl fun u5 _ => ?_
    refine .conseq .k0 (q := lst 76 3 u5 ((([] : List escrow_Lock) ++ a0).map escrow_Lock.cs)) (fun _ hh => by simpa [List.map_append] using hh) ?_
    refine .opp (P.asg .t0) rfl ?_
    refine .nil ?_
    refine .then ?_
    refine .ret ?_
    cases h
    exact .finw u5 (.r1 rfl (.tmp .g0)) trivial (Ls.of (.cons .k0 .nil)) .nil
attribute [irreducible] slices_Clone_escrow_Lock
noncomputable def escrow_Rise (a0 : escrow_State) (a1 : Int) : Option (escrow_State) :=
  Option.bind (slices_Clone_escrow_Lock a0.Locks) fun r3 => some ((⟨a0.Side, IntKind.i64.wrap (a0.Time + (if (if 0 > (IntKind.i64.wrap (1099511627776 - a0.Time)) then 0 else IntKind.i64.wrap (1099511627776 - a0.Time)) < (if 0 > a1 then 0 else a1) then if 0 > (IntKind.i64.wrap (1099511627776 - a0.Time)) then 0 else IntKind.i64.wrap (1099511627776 - a0.Time) else if 0 > a1 then 0 else a1)), a0.Purse, a0.Vault, a0.Nonces, a0.Held, a0.Burnt, r3⟩ : escrow_State))
set_option maxRecDepth 20000 in
set_option maxHeartbeats 1000000 in
theorem S_escrow_Rise (a0 : escrow_State) (z00a : Value) (a1 : Int) (r : escrow_State) (h : escrow_Rise a0 a1 = some r) :
    SpecF Tryz.prog 14 [Ag (escrow_State.cs a0 z00a), N a1] [] [rows 3 z00a (a0.Locks.map escrow_Lock.cs)] (fun z : Value => True) (fun z => Ag (escrow_State.cs r z)) (fun z M => lst 76 3 z (r.Locks.map escrow_Lock.cs) ::  M) (fun z M =>  M) := by
  refine .of func14 rfl ntmps14 rfl fun w0 D0 G0 => ?_
  unfold escrow_Rise at h
  refine .seq ?_
  refine .reg rfl ?_
  refine .opx (X.box (cs := (escrow_State.cs a0 z00a)) .t0 rfl) rfl fun b1 => ?_
  refine .opx (X.alc (cs := (escrow_State.cs ⟨0, 0, ⟨⟨⟨0, 0, 0, 0⟩, ⟨0, 0, 0, 0⟩⟩, ⟨⟨0, 0, 0, 0⟩, ⟨0, 0, 0, 0⟩⟩, ⟨⟨0, 0, 0, 0⟩, ⟨0, 0, 0, 0⟩⟩, ⟨⟨0, 0, 0, 0⟩, ⟨0, 0, 0, 0⟩⟩, ⟨⟨0, 0, 0, 0⟩, ⟨0, 0, 0, 0⟩⟩, ⟨⟨0, 0, 0, 0⟩, ⟨0, 0, 0, 0⟩⟩, ⟨⟨0, 0, 0, 0⟩, ⟨0, 0, 0, 0⟩⟩, ⟨⟨0, 0, 0, 0⟩, ⟨0, 0, 0, 0⟩⟩⟩, ⟨⟨⟨0, 0, 0, 0⟩, ⟨0, 0, 0, 0⟩⟩, ⟨⟨0, 0, 0, 0⟩, ⟨0, 0, 0, 0⟩⟩, ⟨⟨0, 0, 0, 0⟩, ⟨0, 0, 0, 0⟩⟩, ⟨⟨0, 0, 0, 0⟩, ⟨0, 0, 0, 0⟩⟩, ⟨⟨0, 0, 0, 0⟩, ⟨0, 0, 0, 0⟩⟩, ⟨⟨0, 0, 0, 0⟩, ⟨0, 0, 0, 0⟩⟩, ⟨⟨0, 0, 0, 0⟩, ⟨0, 0, 0, 0⟩⟩, ⟨⟨0, 0, 0, 0⟩, ⟨0, 0, 0, 0⟩⟩⟩, ⟨0, 0, 0, 0, 0, 0, 0, 0⟩, ⟨⟨0, 0, 0, 0⟩, ⟨0, 0, 0, 0⟩⟩, ⟨0, 0, 0, 0⟩, []⟩ nilSl)) zeroValue45 rfl) rfl fun b2 => ?_
  refine .nil ?_
  refine .then ?_
  refine .seq ?_
  refine .reg rfl ?_
  refine .opp (P.fa .g1 fa_45_1 rfl) rfl ?_
  refine .op (V.ld (v := N a0.Time) .t0 .k1 (.one isAgg3 rfl)) rfl ?_
  refine .opp (P.mov .t3) rfl ?_
  refine .opp (P.max2 .t0 .k) rfl ?_
  refine .opp (P.fa .g3 fa_45_1 rfl) rfl ?_
  refine .op (V.ld (v := N a0.Time) .t0 .k1 (.one isAgg3 rfl)) rfl ?_
  refine .opp (P.bin .k .t0 .sub) rfl ?_
  refine .opp (P.max2 .t0 .k) rfl ?_
  refine .opp (P.min2 .t1 .t0) rfl ?_
  refine .opp (P.bin .t1 .t0 .add) rfl ?_
  refine .opp (P.fa .g2 fa_45_1 rfl) rfl ?_
  refine .opg (G.str .t1 .t0 .k1 (.mk (cs' := (escrow_State.cs ⟨a0.Side, IntKind.i64.wrap (a0.Time + (if (if 0 > (IntKind.i64.wrap (1099511627776 - a0.Time)) then 0 else IntKind.i64.wrap (1099511627776 - a0.Time)) < (if 0 > a1 then 0 else a1) then if 0 > (IntKind.i64.wrap (1099511627776 - a0.Time)) then 0 else IntKind.i64.wrap (1099511627776 - a0.Time) else if 0 > a1 then 0 else a1)), a0.Purse, a0.Vault, a0.Nonces, a0.Held, a0.Burnt, a0.Locks⟩ z00a)) sizeOf3 rfl rfl rfl rfl)) rfl fun _ _ => ?_
  refine .nil ?_
  refine .then ?_
  refine .seq ?_
  refine .reg rfl ?_
  refine .opp (P.fa .g1 fa_45_7 rfl) rfl ?_
  refine .op (V.ld (v := z00a) .t0 .k0 (.one isAgg43 rfl)) rfl ?_
  obtain ⟨r3, hr4, h⟩ := bnd_eq h
  refine .opg (G.call call32 (.cons .t0 .nil) (S_slices_Clone_escrow_Lock z00a a0.Locks r3 hr4) .nil (.cons Mm.m0 .nil) (fun _ _ => rfl) (fun _ _ => rfl) rfl) rfl fun u5 _ => ?_
  refine .opp (P.fa .g2 fa_45_7 rfl) rfl ?_
  refine .onel .k0 fun ho6 => ?_
  refine .opg (G.str .t1 .t0 .k1 (.mk1 (cs' := (escrow_State.cs ⟨a0.Side, IntKind.i64.wrap (a0.Time + (if (if 0 > (IntKind.i64.wrap (1099511627776 - a0.Time)) then 0 else IntKind.i64.wrap (1099511627776 - a0.Time)) < (if 0 > a1 then 0 else a1) then if 0 > (IntKind.i64.wrap (1099511627776 - a0.Time)) then 0 else IntKind.i64.wrap (1099511627776 - a0.Time) else if 0 > a1 then 0 else a1)), a0.Purse, a0.Vault, a0.Nonces, a0.Held, a0.Burnt, []⟩ u5)) sizeOf43 rfl ho6 rfl rfl)) rfl fun _ _ => ?_
  refine .nil ?_
  refine .then ?_
  refine .seq ?_
  refine .reg rfl ?_
  refine .op (V.ld (v := Ag (escrow_State.cs ⟨a0.Side, IntKind.i64.wrap (a0.Time + (if (if 0 > (IntKind.i64.wrap (1099511627776 - a0.Time)) then 0 else IntKind.i64.wrap (1099511627776 - a0.Time)) < (if 0 > a1 then 0 else a1) then if 0 > (IntKind.i64.wrap (1099511627776 - a0.Time)) then 0 else IntKind.i64.wrap (1099511627776 - a0.Time) else if 0 > a1 then 0 else a1)), a0.Purse, a0.Vault, a0.Nonces, a0.Held, a0.Burnt, []⟩ u5)) .t1 .k0 (.agg isAgg45 sizeOf45 rfl rfl)) rfl ?_
  refine .onel .k1 fun ho7 => ?_
  refine .opg (G.str .t0 .g0 .k2 (.mk (cs' := (escrow_State.cs ⟨a0.Side, IntKind.i64.wrap (a0.Time + (if (if 0 > (IntKind.i64.wrap (1099511627776 - a0.Time)) then 0 else IntKind.i64.wrap (1099511627776 - a0.Time)) < (if 0 > a1 then 0 else a1) then if 0 > (IntKind.i64.wrap (1099511627776 - a0.Time)) then 0 else IntKind.i64.wrap (1099511627776 - a0.Time) else if 0 > a1 then 0 else a1)), a0.Purse, a0.Vault, a0.Nonces, a0.Held, a0.Burnt, []⟩ u5)) sizeOf45 rfl (onez_45 _ ho7) rfl rfl)) rfl fun _ _ => ?_
  refine .nil ?_
  refine .then ?_
  refine .ret ?_
  cases h
  exact .finw u5 (.r1 rfl (.cell .g0 .k0 (.agg isAgg45 sizeOf45 rfl rfl))) trivial (Ls.of (.cons .k2 .nil)) .nil
attribute [irreducible] escrow_Rise
noncomputable def txs_route (a0 : api_Tx) : Int :=
  if (decide ((a0.Amount : api_Wide) = (⟨0, 0, 0, 0⟩ : api_Wide))) = true then 36 else (thn (if (decide (a0.Kind = 1)) = true then (if (decide (a0.Inv.To < 0)) = true then true else (decide (a0.Inv.To ≥ 8))) else false) fun (y3 : Bool) => if y3 = true then 39 else (thn (if (decide (a0.Kind = 2)) = true then (if (decide (a0.Inv.Router < 2)) = true then true else (decide (a0.Inv.Router ≥ 4))) else false) fun (y9 : Bool) => if y9 = true then 39 else 0))
set_option maxRecDepth 20000 in
set_option maxHeartbeats 1000000 in
theorem S_txs_route (a0 : api_Tx) (r : Int) (h : txs_route a0 = r) :
    SpecF Tryz.prog 42 [Ag (api_Tx.cs a0)] [] [] (fun z : Unit => True) (fun z => N r) (fun z M =>  M) (fun z M =>  M) := by
  refine .of func42 rfl ntmps42 rfl fun w0 D0 G0 => ?_
  unfold txs_route at h
  refine .seq ?_
  refine .reg rfl ?_
  refine .opx (X.box (cs := (api_Tx.cs a0)) .t0 rfl) rfl fun b1 => ?_
  refine .op0 (OpP.toV (P.asg .k)) rfl ?_
  refine .nil ?_
  refine .then ?_
  refine .seq ?_
  refine .block ?_
  refine .seq ?_
  refine .reg rfl ?_
  refine .opp (P.fa .g0 fa_36_4 rfl) rfl ?_
  refine .op (V.ld (v := Ag (api_Wide.cs a0.Amount)) .t0 .k0 (.agg isAgg30 sizeOf30 rfl rfl)) rfl ?_
  refine .opp (P.bld (v := Ag (api_Wide.cs ⟨0, 0, 0, 0⟩)) .nil (bld_runA zeroValue30 runUnderlying30 sizeOf28 (by kernel_rfl))) rfl ?_
  refine .opp (P.bin .t1 .t0 (eq_30_eql _ _)) rfl ?_
  refine .opp (P.asg .t0) rfl ?_
  refine .nil ?_
  refine .then ?_
  refine .cond .t0 (fun c2 => ?_) (fun c2 => ?_)
  · rw [if_pos c2] at h
    refine .seq ?_
    refine .reg rfl ?_
    refine .opp (P.asg .k) rfl ?_
    refine .nil ?_
    refine .then ?_
    refine .ret ?_
    refine .inr ?_
    refine .thr ?_
    subst h
    exact .finw () (.r1 rfl (.tmp .g0)) trivial (Ls.of .nil) .nil
  · rw [if_neg (ne_true_of_eq_false c2)] at h
    obtain ⟨y3, hj5, h⟩ := thn_eq h
    refine .cutx (γ := Unit) (E1 := fun z4 => [(8, Bo y3), (1, pt b1 0)]) (L1 := fun z4 => [blk b1 36 (api_Tx.cs a0)]) (R1 := fun z4 => []) ?_ (fun z4 => ?_)
    · clear h
      refine .reg rfl ?_
      refine .opp (P.fa .g0 fa_36_2 rfl) rfl ?_
      refine .op (V.ld (v := N a0.Kind) .t0 .k0 (.one isAgg3 rfl)) rfl ?_
      refine .opp (P.bin .t0 .k .eql) rfl ?_
      refine .opp (P.mov .t0) rfl ?_
      refine .split .k0 (fun c6 => ?_) (fun c6 => ?_)
      · rw [if_pos c6] at hj5
        refine .gyes rfl .g0 ?_
        refine .opp (P.fa .g1 fa_36_5 rfl) rfl ?_
        refine .gyes rfl .g1 ?_
        refine .opp (P.fa .t0 fa_32_5 rfl) rfl ?_
        refine .gyes rfl .g1 ?_
        refine .op (V.ld (v := N a0.Inv.To) .t0 .k0 (.one isAgg3 rfl)) rfl ?_
        refine .gyes rfl .g1 ?_
        refine .opp (P.bin .t0 .k .lss) rfl ?_
        refine .gyes rfl .g1 ?_
        refine .opp (P.mov .t0) rfl ?_
        refine .split .k0 (fun c7 => ?_) (fun c7 => ?_)
        · rw [if_pos c7] at hj5
          refine .gno rfl .g0 rfl rfl ?_
          refine .gno rfl .g0 rfl rfl ?_
          refine .gno rfl .g0 rfl rfl ?_
          refine .gno rfl .g0 rfl rfl ?_
          refine .gyes rfl .g1 ?_
          refine .opp (P.pickT .t0 .k) rfl ?_
          refine .opp (P.pickT .t1 .t0) rfl ?_
          refine .opp (P.asg .t0) rfl ?_
          refine .nil ?_
          subst hj5
          exact .stj () (.cons Mm.m0 (.cons Mm.m1 .nil)) (.of (.cons .k0 .nil)) .nil
        · rw [if_neg (ne_true_of_eq_false c7)] at hj5
          refine .gyes rfl .g0 ?_
          refine .opp (P.fa .g2 fa_36_5 rfl) rfl ?_
          refine .gyes rfl .g1 ?_
          refine .opp (P.fa .t0 fa_32_5 rfl) rfl ?_
          refine .gyes rfl .g1 ?_
          refine .op (V.ld (v := N a0.Inv.To) .t0 .k0 (.one isAgg3 rfl)) rfl ?_
          refine .gyes rfl .g1 ?_
          refine .opp (P.bin .t0 .k .geq) rfl ?_
          refine .gyes rfl .g2 ?_
          refine .opp (P.pickF .t1 .t0) rfl ?_
          refine .opp (P.pickT .t1 .t0) rfl ?_
          refine .opp (P.asg .t0) rfl ?_
          refine .nil ?_
          subst hj5
          exact .stj () (.cons Mm.m0 (.cons Mm.m1 .nil)) (.of (.cons .k0 .nil)) .nil
      · rw [if_neg (ne_true_of_eq_false c6)] at hj5
        refine .gno rfl .g0 rfl rfl ?_
        refine .gno rfl .g0 rfl rfl ?_
        refine .gno rfl .g0 rfl rfl ?_
        refine .gno rfl .g0 rfl rfl ?_
        refine .gwu (.g rfl rfl .g0 rfl) rfl ?_
        refine .gw (.un rfl rfl .g0) rfl ?_
        refine .gw (.un rfl rfl .g0) rfl ?_
        refine .gw (.un rfl rfl .g0) rfl ?_
        refine .gw (.un rfl rfl .g0) rfl ?_
        refine .gno rfl .g1 rfl rfl ?_
        refine .opp (P.pickF .t1 .k) rfl ?_
        refine .opp (P.asg .t0) rfl ?_
        refine .nil ?_
        subst hj5
        exact .stj () (.cons Mm.m0 (.cons Mm.m2 .nil)) (.of (.cons .k0 .nil)) .nil
    · clear hj5
      refine .cond .t0 (fun c8 => ?_) (fun c8 => ?_)
      · rw [if_pos c8] at h
        refine .seq ?_
        refine .reg rfl ?_
        refine .opp (P.asg .k) rfl ?_
        refine .nil ?_
        refine .then ?_
        refine .ret ?_
        refine .inr ?_
        refine .thr ?_
        subst h
        exact .finw () (.r1 rfl (.tmp .g0)) trivial (Ls.of .nil) .nil
      · rw [if_neg (ne_true_of_eq_false c8)] at h
        obtain ⟨y9, hj11, h⟩ := thn_eq h
        refine .cutx (γ := Unit) (E1 := fun z10 => [(24, Bo y9)]) (L1 := fun z10 => []) (R1 := fun z10 => []) ?_ (fun z10 => ?_)
        · clear h
          refine .reg rfl ?_
          refine .opp (P.fa .g0 fa_36_2 rfl) rfl ?_
          refine .op (V.ld (v := N a0.Kind) .t0 .k0 (.one isAgg3 rfl)) rfl ?_
          refine .opp (P.bin .t0 .k .eql) rfl ?_
          refine .opp (P.mov .t0) rfl ?_
          refine .split .k0 (fun c12 => ?_) (fun c12 => ?_)
          · rw [if_pos c12] at hj11
            refine .gyes rfl .g0 ?_
            refine .opp (P.fa .g1 fa_36_5 rfl) rfl ?_
            refine .gyes rfl .g1 ?_
            refine .opp (P.fa .t0 fa_32_2 rfl) rfl ?_
            refine .gyes rfl .g1 ?_
            refine .op (V.ld (v := N a0.Inv.Router) .t0 .k0 (.one isAgg3 rfl)) rfl ?_
            refine .gyes rfl .g1 ?_
            refine .opp (P.bin .t0 .k .lss) rfl ?_
            refine .gyes rfl .g1 ?_
            refine .opp (P.mov .t0) rfl ?_
            refine .split .k0 (fun c13 => ?_) (fun c13 => ?_)
            · rw [if_pos c13] at hj11
              refine .gno rfl .g0 rfl rfl ?_
              refine .gno rfl .g0 rfl rfl ?_
              refine .gno rfl .g0 rfl rfl ?_
              refine .gno rfl .g0 rfl rfl ?_
              refine .gyes rfl .g1 ?_
              refine .opp (P.pickT .t0 .k) rfl ?_
              refine .opp (P.pickT .t1 .t0) rfl ?_
              refine .opp (P.asg .t0) rfl ?_
              refine .nil ?_
              subst hj11
              exact .stj () (.cons Mm.m0 .nil) (.of .nil) .nil
            · rw [if_neg (ne_true_of_eq_false c13)] at hj11
              refine .gyes rfl .g0 ?_
              refine .opp (P.fa .t2 fa_36_5 rfl) rfl ?_
              refine .gyes rfl .g1 ?_
              refine .opp (P.fa .t0 fa_32_2 rfl) rfl ?_
              refine .gyes rfl .g1 ?_
              refine .op (V.ld (v := N a0.Inv.Router) .t0 .k0 (.one isAgg3 rfl)) rfl ?_
              refine .gyes rfl .g1 ?_
              refine .opp (P.bin .t0 .k .geq) rfl ?_
              refine .gyes rfl .g2 ?_
              refine .opp (P.pickF .t1 .t0) rfl ?_
              refine .opp (P.pickT .t1 .t0) rfl ?_
              refine .opp (P.asg .t0) rfl ?_
              refine .nil ?_
              subst hj11
              exact .stj () (.cons Mm.m0 .nil) (.of .nil) .nil
          · rw [if_neg (ne_true_of_eq_false c12)] at hj11
            refine .gno rfl .g0 rfl rfl ?_
            refine .gno rfl .g0 rfl rfl ?_
            refine .gno rfl .g0 rfl rfl ?_
            refine .gno rfl .g0 rfl rfl ?_
            refine .gwu (.g rfl rfl .g0 rfl) rfl ?_
            refine .gw (.un rfl rfl .g0) rfl ?_
            refine .gw (.un rfl rfl .g0) rfl ?_
            refine .gw (.un rfl rfl .g0) rfl ?_
            refine .gw (.un rfl rfl .g0) rfl ?_
            refine .gno rfl .g1 rfl rfl ?_
            refine .opp (P.pickF .t1 .k) rfl ?_
            refine .opp (P.asg .t0) rfl ?_
            refine .nil ?_
            subst hj11
            exact .stj () (.cons Mm.m0 .nil) (.of .nil) .nil
        · clear hj11
          refine .cond .t0 (fun c14 => ?_) (fun c14 => ?_)
          · rw [if_pos c14] at h
            refine .seq ?_
            refine .reg rfl ?_
            refine .opp (P.asg .k) rfl ?_
            refine .nil ?_
            refine .then ?_
            refine .ret ?_
            refine .inr ?_
            refine .thr ?_
            subst h
            exact .finw () (.r1 rfl (.tmp .g0)) trivial (Ls.of .nil) .nil
          · rw [if_neg (ne_true_of_eq_false c14)] at h
            refine .skip ?_
            refine .inn ?_
            refine .then ?_
            refine .seq ?_
            refine .reg rfl ?_
            refine .opp (P.asg .k) rfl ?_
            refine .nil ?_
            refine .then ?_
            refine .ret ?_
            subst h
            exact .finw () (.r1 rfl (.tmp .g0)) trivial (Ls.of .nil) .nil
attribute [irreducible] txs_route
noncomputable def deal_in (a0 : Int) (a1 : Int) (a2 : Int) : Bool :=
  thn (if (decide (a0 ≥ a1)) = true then (decide (a0 ≤ a2)) else false) fun (y1 : Bool) => y1
set_option maxRecDepth 20000 in
set_option maxHeartbeats 1000000 in
theorem S_deal_in (a0 : Int) (a1 : Int) (a2 : Int) (r : Bool) (h : deal_in a0 a1 a2 = r) :
    SpecF Tryz.prog 54 [N a0, N a1, N a2] [] [] (fun z : Unit => True) (fun z => Bo r) (fun z M =>  M) (fun z M =>  M) := by
  refine .of func54 rfl ntmps54 rfl fun w0 D0 G0 => ?_
  unfold deal_in at h
  refine .seq ?_
  refine .reg rfl ?_
  refine .op0 (OpP.toV (P.asg .k)) rfl ?_
  refine .nil ?_
  refine .then ?_
  obtain ⟨y1, hj3, h⟩ := thn_eq h
  refine .cutx (γ := Unit) (E1 := fun z2 => [(6, Bo y1)]) (L1 := fun z2 => []) (R1 := fun z2 => []) ?_ (fun z2 => ?_)
  · clear h
    refine .reg rfl ?_
    refine .opp (P.mov .g0) rfl ?_
    refine .opp (P.mov .t2) rfl ?_
    refine .opp (P.bin .t1 .t0 .geq) rfl ?_
    refine .opp (P.mov .t0) rfl ?_
    refine .split .k0 (fun c4 => ?_) (fun c4 => ?_)
    · rw [if_pos c4] at hj3
      refine .gyes rfl .g0 ?_
      refine .opp (P.mov .t1) rfl ?_
      refine .gyes rfl .g1 ?_
      refine .opp (P.mov .t2) rfl ?_
      refine .gyes rfl .g2 ?_
      refine .opp (P.bin .t1 .t0 .leq) rfl ?_
      refine .opp (P.pickT .t1 .t0) rfl ?_
      refine .opp (P.asg .t0) rfl ?_
      refine .nil ?_
      subst hj3
      exact .stj () (.cons Mm.m0 .nil) (.of .nil) .nil
    · rw [if_neg (ne_true_of_eq_false c4)] at hj3
      refine .gno rfl .g0 rfl rfl ?_
      refine .gno rfl .g0 rfl rfl ?_
      refine .gno rfl .g0 rfl rfl ?_
      refine .opp (P.pickF .t0 .k) rfl ?_
      refine .opp (P.asg .t0) rfl ?_
      refine .nil ?_
      subst hj3
      exact .stj () (.cons Mm.m0 .nil) (.of .nil) .nil
  · clear hj3
    refine .ret ?_
    subst h
    exact .finw () (.r1 rfl (.tmp .g0)) trivial (Ls.of .nil) .nil
attribute [irreducible] deal_in
noncomputable def deal_Check (a0 : api_Inv) : Int :=
  thn (if (deal_in a0.User 0 1) = true then (if (deal_in a0.Router 2 3) = true then (if (deal_in a0.Send 0 1) = true then (deal_in a0.Recv 0 1) else false) else false) else false) fun (y2 : Bool) => thn (if (!y2) = true then true else (if (!(deal_in a0.To 0 7)) = true then true else (if (decide ((a0.Root.size : Int) ≠ 8)) = true then true else (!(deal_in (a0.Id.size : Int) 1 16))))) fun (y8 : Bool) => if y8 = true then 39 else 0
set_option maxRecDepth 20000 in
set_option maxHeartbeats 1000000 in
theorem S_deal_Check (a0 : api_Inv) (r : Int) (h : deal_Check a0 = r) :
    SpecF Tryz.prog 43 [Ag (api_Inv.cs a0)] [] [] (fun z : Unit => True) (fun z => N r) (fun z M =>  M) (fun z M =>  M) := by
  refine .of func43 rfl ntmps43 rfl fun w0 D0 G0 => ?_
  unfold deal_Check at h
  refine .seq ?_
  refine .reg rfl ?_
  refine .opx (X.box (cs := (api_Inv.cs a0)) .t0 rfl) rfl fun b1 => ?_
  refine .op0 (OpP.toV (P.asg .k)) rfl ?_
  refine .nil ?_
  refine .then ?_
  obtain ⟨y2, hj4, h⟩ := thn_eq h
  refine .cutx (γ := Unit) (E1 := fun z3 => [(3, Bo y2), (1, pt b1 0)]) (L1 := fun z3 => [blk b1 32 (api_Inv.cs a0)]) (R1 := fun z3 => []) ?_ (fun z3 => ?_)
  · clear h
    refine .reg rfl ?_
    refine .opp (P.fa .g0 fa_32_0 rfl) rfl ?_
    refine .op (V.ld (v := N a0.User) .t0 .k0 (.one isAgg3 rfl)) rfl ?_
    refine .opg (G.call call54 (.cons .t0 (.cons .k (.cons .k .nil))) (S_deal_in a0.User 0 1 _ rfl) .nil .nil (fun _ _ => rfl) (fun _ _ => rfl) rfl) rfl fun _ _ => ?_
    refine .opp (P.mov .t0) rfl ?_
    refine .split .k0 (fun c5 => ?_) (fun c5 => ?_)
    · rw [if_pos c5] at hj4
      refine .gyes rfl .g0 ?_
      refine .opp (P.fa .g1 fa_32_2 rfl) rfl ?_
      refine .gyes rfl .g1 ?_
      refine .op (V.ld (v := N a0.Router) .t0 .k0 (.one isAgg3 rfl)) rfl ?_
      refine .gyes rfl .g1 ?_
      refine .opg (G.call call54 (.cons .t0 (.cons .k (.cons .k .nil))) (S_deal_in a0.Router 2 3 _ rfl) .nil .nil (fun _ _ => rfl) (fun _ _ => rfl) rfl) rfl fun _ _ => ?_
      refine .opp (P.pickT .t1 .t0) rfl ?_
      refine .opp (P.mov .t0) rfl ?_
      refine .split .k0 (fun c6 => ?_) (fun c6 => ?_)
      · rw [if_pos c6] at hj4
        refine .gyes rfl .g0 ?_
        refine .opp (P.fa .g1 fa_32_3 rfl) rfl ?_
        refine .gyes rfl .g1 ?_
        refine .op (V.ld (v := N a0.Send) .t0 .k0 (.one isAgg3 rfl)) rfl ?_
        refine .gyes rfl .g1 ?_
        refine .opg (G.call call54 (.cons .t0 (.cons .k (.cons .k .nil))) (S_deal_in a0.Send 0 1 _ rfl) .nil .nil (fun _ _ => rfl) (fun _ _ => rfl) rfl) rfl fun _ _ => ?_
        refine .opp (P.pickT .t1 .t0) rfl ?_
        refine .opp (P.mov .t0) rfl ?_
        refine .split .k0 (fun c7 => ?_) (fun c7 => ?_)
        · rw [if_pos c7] at hj4
          refine .gyes rfl .g0 ?_
          refine .opp (P.fa .g1 fa_32_4 rfl) rfl ?_
          refine .gyes rfl .g1 ?_
          refine .op (V.ld (v := N a0.Recv) .t0 .k0 (.one isAgg3 rfl)) rfl ?_
          refine .gyes rfl .g1 ?_
          refine .opg (G.call call54 (.cons .t0 (.cons .k (.cons .k .nil))) (S_deal_in a0.Recv 0 1 _ rfl) .nil .nil (fun _ _ => rfl) (fun _ _ => rfl) rfl) rfl fun _ _ => ?_
          refine .opp (P.pickT .t1 .t0) rfl ?_
          refine .opp (P.asg .t0) rfl ?_
          refine .nil ?_
          subst hj4
          exact .stj () (.cons Mm.m0 (.cons Mm.m1 .nil)) (.of (.cons .k0 .nil)) .nil
        · rw [if_neg (ne_true_of_eq_false c7)] at hj4
          refine .gno rfl .g0 rfl rfl ?_
          refine .gno rfl .g0 rfl rfl ?_
          refine .gno rfl .g0 rfl rfl ?_
          refine .opp (P.pickF .t0 .k) rfl ?_
          refine .opp (P.asg .t0) rfl ?_
          refine .nil ?_
          subst hj4
          exact .stj () (.cons Mm.m0 (.cons Mm.m1 .nil)) (.of (.cons .k0 .nil)) .nil
      · rw [if_neg (ne_true_of_eq_false c6)] at hj4
        refine .gno rfl .g0 rfl rfl ?_
        refine .gno rfl .g0 rfl rfl ?_
        refine .gno rfl .g0 rfl rfl ?_
        refine .opp (P.pickF .t0 .k) rfl ?_
        refine .opp (P.mov .t0) rfl ?_
        refine .gno rfl .g0 rfl rfl ?_
        refine .gno rfl .g0 rfl rfl ?_
        refine .gno rfl .g0 rfl rfl ?_
        refine .opp (P.pickF .t0 .k) rfl ?_
        refine .opp (P.asg .t0) rfl ?_
        refine .nil ?_
        subst hj4
        exact .stj () (.cons Mm.m0 (.cons Mm.m1 .nil)) (.of (.cons .k0 .nil)) .nil
    · rw [if_neg (ne_true_of_eq_false c5)] at hj4
      refine .gno rfl .g0 rfl rfl ?_
      refine .gno rfl .g0 rfl rfl ?_
      refine .gno rfl .g0 rfl rfl ?_
      refine .opp (P.pickF .t0 .k) rfl ?_
      refine .opp (P.mov .t0) rfl ?_
      refine .gno rfl .g0 rfl rfl ?_
      refine .gno rfl .g0 rfl rfl ?_
      refine .gno rfl .g0 rfl rfl ?_
      refine .opp (P.pickF .t0 .k) rfl ?_
      refine .opp (P.mov .t0) rfl ?_
      refine .gno rfl .g0 rfl rfl ?_
      refine .gno rfl .g0 rfl rfl ?_
      refine .gno rfl .g0 rfl rfl ?_
      refine .opp (P.pickF .t0 .k) rfl ?_
      refine .opp (P.asg .t0) rfl ?_
      refine .nil ?_
      subst hj4
      exact .stj () (.cons Mm.m0 (.cons Mm.m1 .nil)) (.of (.cons .k0 .nil)) .nil
  · clear hj4
    refine .seq ?_
    obtain ⟨y8, hj10, h⟩ := thn_eq h
    refine .cutx (γ := Unit) (E1 := fun z9 => [(42, Bo y8)]) (L1 := fun z9 => []) (R1 := fun z9 => []) ?_ (fun z9 => ?_)
    · clear h
      refine .reg rfl ?_
      refine .opp (P.mov .t0) rfl ?_
      refine .opp (P.not .t0) rfl ?_
      refine .opp (P.mov .t0) rfl ?_
      refine .split .k0 (fun c11 => ?_) (fun c11 => ?_)
      · rw [if_pos c11] at hj10
        refine .gno rfl .g0 rfl rfl ?_
        refine .gno rfl .g0 rfl rfl ?_
        refine .gno rfl .g0 rfl rfl ?_
        refine .gno rfl .g0 rfl rfl ?_
        refine .opp (P.pickT .t0 .k) rfl ?_
        refine .opp (P.mov .t0) rfl ?_
        refine .gno rfl .g0 rfl rfl ?_
        refine .gno rfl .g0 rfl rfl ?_
        refine .gno rfl .g0 rfl rfl ?_
        refine .gno rfl .g0 rfl rfl ?_
        refine .opp (P.pickT .t0 .k) rfl ?_
        refine .opp (P.mov .t0) rfl ?_
        refine .gno rfl .g0 rfl rfl ?_
        refine .gno rfl .g0 rfl rfl ?_
        refine .gno rfl .g0 rfl rfl ?_
        refine .gno rfl .g0 rfl rfl ?_
        refine .gno rfl .g0 rfl rfl ?_
        refine .opp (P.pickT .t0 .k) rfl ?_
        refine .nil ?_
        subst hj10
        exact .stj () (.cons Mm.m0 .nil) (.of .nil) .nil
      · rw [if_neg (ne_true_of_eq_false c11)] at hj10
        refine .gyes rfl .g0 ?_
        refine .opp (P.fa .g1 fa_32_5 rfl) rfl ?_
        refine .gyes rfl .g1 ?_
        refine .op (V.ld (v := N a0.To) .t0 .k0 (.one isAgg3 rfl)) rfl ?_
        refine .gyes rfl .g1 ?_
        refine .opg (G.call call54 (.cons .t0 (.cons .k (.cons .k .nil))) (S_deal_in a0.To 0 7 _ rfl) .nil .nil (fun _ _ => rfl) (fun _ _ => rfl) rfl) rfl fun _ _ => ?_
        refine .gyes rfl .g1 ?_
        refine .opp (P.not .t0) rfl ?_
        refine .opp (P.pickF .t1 .t0) rfl ?_
        refine .opp (P.mov .t0) rfl ?_
        refine .split .k0 (fun c12 => ?_) (fun c12 => ?_)
        · rw [if_pos c12] at hj10
          refine .gno rfl .g0 rfl rfl ?_
          refine .gno rfl .g0 rfl rfl ?_
          refine .gno rfl .g0 rfl rfl ?_
          refine .gno rfl .g0 rfl rfl ?_
          refine .opp (P.pickT .t0 .k) rfl ?_
          refine .opp (P.mov .t0) rfl ?_
          refine .gno rfl .g0 rfl rfl ?_
          refine .gno rfl .g0 rfl rfl ?_
          refine .gno rfl .g0 rfl rfl ?_
          refine .gno rfl .g0 rfl rfl ?_
          refine .gno rfl .g0 rfl rfl ?_
          refine .opp (P.pickT .t0 .k) rfl ?_
          refine .nil ?_
          subst hj10
          exact .stj () (.cons Mm.m0 .nil) (.of .nil) .nil
        · rw [if_neg (ne_true_of_eq_false c12)] at hj10
          refine .gyes rfl .g0 ?_
          refine .opp (P.fa .g1 fa_32_1 rfl) rfl ?_
          refine .gyes rfl .g1 ?_
          refine .op (V.ld (v := .string a0.Root) .t0 .k0 (.one isAgg9 rfl)) rfl ?_
          refine .gyes rfl .g1 ?_
          refine .opp (P.lens .t0 runUnderlying9) rfl ?_
          refine .gyes rfl .g1 ?_
          refine .opp (P.bin .t0 .k .neq) rfl ?_
          refine .opp (P.pickF .t1 .t0) rfl ?_
          refine .opp (P.mov .t0) rfl ?_
          refine .split .k0 (fun c13 => ?_) (fun c13 => ?_)
          · rw [if_pos c13] at hj10
            refine .gno rfl .g0 rfl rfl ?_
            refine .gno rfl .g0 rfl rfl ?_
            refine .gno rfl .g0 rfl rfl ?_
            refine .gno rfl .g0 rfl rfl ?_
            refine .gno rfl .g0 rfl rfl ?_
            refine .opp (P.pickT .t0 .k) rfl ?_
            refine .nil ?_
            subst hj10
            exact .stj () (.cons Mm.m0 .nil) (.of .nil) .nil
          · rw [if_neg (ne_true_of_eq_false c13)] at hj10
            refine .gyes rfl .g0 ?_
            refine .opp (P.fa .t1 fa_32_6 rfl) rfl ?_
            refine .gyes rfl .g1 ?_
            refine .op (V.ld (v := .string a0.Id) .t0 .k0 (.one isAgg9 rfl)) rfl ?_
            refine .gyes rfl .g1 ?_
            refine .opp (P.lens .t0 runUnderlying9) rfl ?_
            refine .gyes rfl .g1 ?_
            refine .opg (G.call call54 (.cons .t0 (.cons .k (.cons .k .nil))) (S_deal_in (a0.Id.size : Int) 1 16 _ rfl) .nil .nil (fun _ _ => rfl) (fun _ _ => rfl) rfl) rfl fun _ _ => ?_
            refine .gyes rfl .g1 ?_
            refine .opp (P.not .t0) rfl ?_
            refine .opp (P.pickF .t1 .t0) rfl ?_
            refine .nil ?_
            subst hj10
            exact .stj () (.cons Mm.m0 .nil) (.of .nil) .nil
    · clear hj10
      refine .cond .t0 (fun c14 => ?_) (fun c14 => ?_)
      · rw [if_pos c14] at h
        refine .seq ?_
        refine .reg rfl ?_
        refine .opp (P.asg .k) rfl ?_
        refine .nil ?_
        refine .then ?_
        refine .ret ?_
        refine .thr ?_
        subst h
        exact .finw () (.r1 rfl (.tmp .g0)) trivial (Ls.of .nil) .nil
      · rw [if_neg (ne_true_of_eq_false c14)] at h
        refine .skip ?_
        refine .then ?_
        refine .seq ?_
        refine .reg rfl ?_
        refine .opp (P.asg .k) rfl ?_
        refine .nil ?_
        refine .then ?_
        refine .ret ?_
        subst h
        exact .finw () (.r1 rfl (.tmp .g0)) trivial (Ls.of .nil) .nil
attribute [irreducible] deal_Check
noncomputable def deal_Sound (a0 : api_Var) : Int :=
  thn (if (decide ((a0.Amount : api_Wide) = (⟨0, 0, 0, 0⟩ : api_Wide))) = true then true else (!(deal_in a0.Expiry 0 1099511627776))) fun (y2 : Bool) => if y2 = true then 36 else 0
set_option maxRecDepth 20000 in
set_option maxHeartbeats 1000000 in
theorem S_deal_Sound (a0 : api_Var) (r : Int) (h : deal_Sound a0 = r) :
    SpecF Tryz.prog 44 [Ag (api_Var.cs a0)] [] [] (fun z : Unit => True) (fun z => N r) (fun z M =>  M) (fun z M =>  M) := by
  refine .of func44 rfl ntmps44 rfl fun w0 D0 G0 => ?_
  unfold deal_Sound at h
  refine .seq ?_
  refine .reg rfl ?_
  refine .opx (X.box (cs := (api_Var.cs a0)) .t0 rfl) rfl fun b1 => ?_
  refine .op0 (OpP.toV (P.asg .k)) rfl ?_
  refine .nil ?_
  refine .then ?_
  refine .seq ?_
  obtain ⟨y2, hj4, h⟩ := thn_eq h
  refine .cutx (γ := Unit) (E1 := fun z3 => [(12, Bo y2)]) (L1 := fun z3 => []) (R1 := fun z3 => []) ?_ (fun z3 => ?_)
  · clear h
    refine .reg rfl ?_
    refine .opp (P.fa .g0 fa_34_0 rfl) rfl ?_
    refine .op (V.ld (v := Ag (api_Wide.cs a0.Amount)) .t0 .k0 (.agg isAgg30 sizeOf30 rfl rfl)) rfl ?_
    refine .opp (P.bld (v := Ag (api_Wide.cs ⟨0, 0, 0, 0⟩)) .nil (bld_runA zeroValue30 runUnderlying30 sizeOf28 (by kernel_rfl))) rfl ?_
    refine .opp (P.bin .t1 .t0 (eq_30_eql _ _)) rfl ?_
    refine .opp (P.mov .t0) rfl ?_
    refine .split .k0 (fun c5 => ?_) (fun c5 => ?_)
    · rw [if_pos c5] at hj4
      refine .gno rfl .g0 rfl rfl ?_
      refine .gno rfl .g0 rfl rfl ?_
      refine .gno rfl .g0 rfl rfl ?_
      refine .gno rfl .g0 rfl rfl ?_
      refine .opp (P.pickT .t0 .k) rfl ?_
      refine .nil ?_
      subst hj4
      exact .stj () (.cons Mm.m0 .nil) (.of .nil) .nil
    · rw [if_neg (ne_true_of_eq_false c5)] at hj4
      refine .gyes rfl .g0 ?_
      refine .opp (P.fa .t1 fa_34_1 rfl) rfl ?_
      refine .gyes rfl .g1 ?_
      refine .op (V.ld (v := N a0.Expiry) .t0 .k0 (.one isAgg3 rfl)) rfl ?_
      refine .gyes rfl .g1 ?_
      refine .opg (G.call call54 (.cons .t0 (.cons .k (.cons .k .nil))) (S_deal_in a0.Expiry 0 1099511627776 _ rfl) .nil .nil (fun _ _ => rfl) (fun _ _ => rfl) rfl) rfl fun _ _ => ?_
      refine .gyes rfl .g1 ?_
      refine .opp (P.not .t0) rfl ?_
      refine .opp (P.pickF .t1 .t0) rfl ?_
      refine .nil ?_
      subst hj4
      exact .stj () (.cons Mm.m0 .nil) (.of .nil) .nil
  · clear hj4
    refine .cond .t0 (fun c6 => ?_) (fun c6 => ?_)
    · rw [if_pos c6] at h
      refine .seq ?_
      refine .reg rfl ?_
      refine .opp (P.asg .k) rfl ?_
      refine .nil ?_
      refine .then ?_
      refine .ret ?_
      refine .thr ?_
      subst h
      exact .finw () (.r1 rfl (.tmp .g0)) trivial (Ls.of .nil) .nil
    · rw [if_neg (ne_true_of_eq_false c6)] at h
      refine .skip ?_
      refine .then ?_
      refine .seq ?_
      refine .reg rfl ?_
      refine .opp (P.asg .k) rfl ?_
      refine .nil ?_
      refine .then ?_
      refine .ret ?_
      subst h
      exact .finw () (.r1 rfl (.tmp .g0)) trivial (Ls.of .nil) .nil
attribute [irreducible] deal_Sound
noncomputable def txs_Check (a0 : api_Tx) : Int :=
  thn (if (decide (a0.Kind < 1)) = true then true else (decide (a0.Kind > 6))) fun (y2 : Bool) => if y2 = true then 12 else (thn (if (decide (a0.From < 0)) = true then true else (if (decide (a0.From ≥ 8)) = true then true else (if (decide (a0.Nonce < 0)) = true then true else (if (decide (a0.Nonce > 1099511627776)) = true then true else (if (decide (a0.Asset < 0)) = true then true else (decide (a0.Asset ≥ 2))))))) fun (y7 : Bool) => if y7 = true then 4 else (if (decide (a0.Kind < 4)) = true then (txs_route a0) else (if (decide ((deal_Check a0.Inv) ≠ 0)) = true then (deal_Check a0.Inv) else (if (decide ((deal_Sound a0.Var) ≠ 0)) = true then (deal_Sound a0.Var) else (if (decide ((a0.Sig.size : Int) > 1024)) = true then 5 else 0)))))
set_option maxRecDepth 20000 in
set_option maxHeartbeats 1000000 in
theorem S_txs_Check (a0 : api_Tx) (r : Int) (h : txs_Check a0 = r) :
    SpecF Tryz.prog 26 [Ag (api_Tx.cs a0)] [] [] (fun z : Unit => True) (fun z => N r) (fun z M =>  M) (fun z M =>  M) := by
  refine .of func26 rfl ntmps26 rfl fun w0 D0 G0 => ?_
  unfold txs_Check at h
  refine .seq ?_
  refine .reg rfl ?_
  refine .opx (X.box (cs := (api_Tx.cs a0)) .t0 rfl) rfl fun b1 => ?_
  refine .op0 (OpP.toV (P.asg .k)) rfl ?_
  refine .nil ?_
  refine .then ?_
  refine .seq ?_
  refine .block ?_
  obtain ⟨y2, hj4, h⟩ := thn_eq h
  refine .cutx (γ := Unit) (E1 := fun z3 => [(5, Bo y2), (1, pt b1 0)]) (L1 := fun z3 => [blk b1 36 (api_Tx.cs a0)]) (R1 := fun z3 => []) ?_ (fun z3 => ?_)
  · clear h
    refine .reg rfl ?_
    refine .opp (P.fa .g0 fa_36_2 rfl) rfl ?_
    refine .op (V.ld (v := N a0.Kind) .t0 .k0 (.one isAgg3 rfl)) rfl ?_
    refine .opp (P.bin .t0 .k .lss) rfl ?_
    refine .opp (P.mov .t0) rfl ?_
    refine .split .k0 (fun c5 => ?_) (fun c5 => ?_)
    · rw [if_pos c5] at hj4
      refine .gno rfl .g0 rfl rfl ?_
      refine .gno rfl .g0 rfl rfl ?_
      refine .gno rfl .g0 rfl rfl ?_
      refine .opp (P.pickT .t0 .k) rfl ?_
      refine .opp (P.asg .t0) rfl ?_
      refine .nil ?_
      subst hj4
      exact .stj () (.cons Mm.m0 (.cons Mm.m1 .nil)) (.of (.cons .k0 .nil)) .nil
    · rw [if_neg (ne_true_of_eq_false c5)] at hj4
      refine .gyes rfl .g0 ?_
      refine .opp (P.fa .g1 fa_36_2 rfl) rfl ?_
      refine .gyes rfl .g1 ?_
      refine .op (V.ld (v := N a0.Kind) .t0 .k0 (.one isAgg3 rfl)) rfl ?_
      refine .gyes rfl .g1 ?_
      refine .opp (P.bin .t0 .k .gtr) rfl ?_
      refine .opp (P.pickF .t1 .t0) rfl ?_
      refine .opp (P.asg .t0) rfl ?_
      refine .nil ?_
      subst hj4
      exact .stj () (.cons Mm.m0 (.cons Mm.m1 .nil)) (.of (.cons .k0 .nil)) .nil
  · clear hj4
    refine .cond .t0 (fun c6 => ?_) (fun c6 => ?_)
    · rw [if_pos c6] at h
      refine .seq ?_
      refine .reg rfl ?_
      refine .opp (P.asg .k) rfl ?_
      refine .nil ?_
      refine .then ?_
      refine .ret ?_
      refine .inr ?_
      refine .thr ?_
      subst h
      exact .finw () (.r1 rfl (.tmp .g0)) trivial (Ls.of .nil) .nil
    · rw [if_neg (ne_true_of_eq_false c6)] at h
      obtain ⟨y7, hj9, h⟩ := thn_eq h
      refine .cutx (γ := Unit) (E1 := fun z8 => [(14, Bo y7), (1, pt b1 0)]) (L1 := fun z8 => [blk b1 36 (api_Tx.cs a0)]) (R1 := fun z8 => []) ?_ (fun z8 => ?_)
      · clear h
        refine .reg rfl ?_
        refine .opp (P.fa .g0 fa_36_0 rfl) rfl ?_
        refine .op (V.ld (v := N a0.From) .t0 .k0 (.one isAgg3 rfl)) rfl ?_
        refine .opp (P.bin .t0 .k .lss) rfl ?_
        refine .opp (P.mov .t0) rfl ?_
        refine .split .k0 (fun c10 => ?_) (fun c10 => ?_)
        · rw [if_pos c10] at hj9
          refine .gno rfl .g0 rfl rfl ?_
          refine .gno rfl .g0 rfl rfl ?_
          refine .gno rfl .g0 rfl rfl ?_
          refine .opp (P.pickT .t0 .k) rfl ?_
          refine .opp (P.mov .t0) rfl ?_
          refine .gno rfl .g0 rfl rfl ?_
          refine .gno rfl .g0 rfl rfl ?_
          refine .gno rfl .g0 rfl rfl ?_
          refine .opp (P.pickT .t0 .k) rfl ?_
          refine .opp (P.mov .t0) rfl ?_
          refine .gno rfl .g0 rfl rfl ?_
          refine .gno rfl .g0 rfl rfl ?_
          refine .gno rfl .g0 rfl rfl ?_
          refine .opp (P.pickT .t0 .k) rfl ?_
          refine .opp (P.mov .t0) rfl ?_
          refine .gno rfl .g0 rfl rfl ?_
          refine .gno rfl .g0 rfl rfl ?_
          refine .gno rfl .g0 rfl rfl ?_
          refine .opp (P.pickT .t0 .k) rfl ?_
          refine .opp (P.mov .t0) rfl ?_
          refine .gno rfl .g0 rfl rfl ?_
          refine .gno rfl .g0 rfl rfl ?_
          refine .gno rfl .g0 rfl rfl ?_
          refine .opp (P.pickT .t0 .k) rfl ?_
          refine .opp (P.asg .t0) rfl ?_
          refine .nil ?_
          subst hj9
          exact .stj () (.cons Mm.m0 (.cons Mm.m1 .nil)) (.of (.cons .k0 .nil)) .nil
        · rw [if_neg (ne_true_of_eq_false c10)] at hj9
          refine .gyes rfl .g0 ?_
          refine .opp (P.fa .g1 fa_36_0 rfl) rfl ?_
          refine .gyes rfl .g1 ?_
          refine .op (V.ld (v := N a0.From) .t0 .k0 (.one isAgg3 rfl)) rfl ?_
          refine .gyes rfl .g1 ?_
          refine .opp (P.bin .t0 .k .geq) rfl ?_
          refine .opp (P.pickF .t1 .t0) rfl ?_
          refine .opp (P.mov .t0) rfl ?_
          refine .split .k0 (fun c11 => ?_) (fun c11 => ?_)
          · rw [if_pos c11] at hj9
            refine .gno rfl .g0 rfl rfl ?_
            refine .gno rfl .g0 rfl rfl ?_
            refine .gno rfl .g0 rfl rfl ?_
            refine .opp (P.pickT .t0 .k) rfl ?_
            refine .opp (P.mov .t0) rfl ?_
            refine .gno rfl .g0 rfl rfl ?_
            refine .gno rfl .g0 rfl rfl ?_
            refine .gno rfl .g0 rfl rfl ?_
            refine .opp (P.pickT .t0 .k) rfl ?_
            refine .opp (P.mov .t0) rfl ?_
            refine .gno rfl .g0 rfl rfl ?_
            refine .gno rfl .g0 rfl rfl ?_
            refine .gno rfl .g0 rfl rfl ?_
            refine .opp (P.pickT .t0 .k) rfl ?_
            refine .opp (P.mov .t0) rfl ?_
            refine .gno rfl .g0 rfl rfl ?_
            refine .gno rfl .g0 rfl rfl ?_
            refine .gno rfl .g0 rfl rfl ?_
            refine .opp (P.pickT .t0 .k) rfl ?_
            refine .opp (P.asg .t0) rfl ?_
            refine .nil ?_
            subst hj9
            exact .stj () (.cons Mm.m0 (.cons Mm.m1 .nil)) (.of (.cons .k0 .nil)) .nil
          · rw [if_neg (ne_true_of_eq_false c11)] at hj9
            refine .gyes rfl .g0 ?_
            refine .opp (P.fa .g1 fa_36_1 rfl) rfl ?_
            refine .gyes rfl .g1 ?_
            refine .op (V.ld (v := N a0.Nonce) .t0 .k0 (.one isAgg3 rfl)) rfl ?_
            refine .gyes rfl .g1 ?_
            refine .opp (P.bin .t0 .k .lss) rfl ?_
            refine .opp (P.pickF .t1 .t0) rfl ?_
            refine .opp (P.mov .t0) rfl ?_
            refine .split .k0 (fun c12 => ?_) (fun c12 => ?_)
            · rw [if_pos c12] at hj9
              refine .gno rfl .g0 rfl rfl ?_
              refine .gno rfl .g0 rfl rfl ?_
              refine .gno rfl .g0 rfl rfl ?_
              refine .opp (P.pickT .t0 .k) rfl ?_
              refine .opp (P.mov .t0) rfl ?_
              refine .gno rfl .g0 rfl rfl ?_
              refine .gno rfl .g0 rfl rfl ?_
              refine .gno rfl .g0 rfl rfl ?_
              refine .opp (P.pickT .t0 .k) rfl ?_
              refine .opp (P.mov .t0) rfl ?_
              refine .gno rfl .g0 rfl rfl ?_
              refine .gno rfl .g0 rfl rfl ?_
              refine .gno rfl .g0 rfl rfl ?_
              refine .opp (P.pickT .t0 .k) rfl ?_
              refine .opp (P.asg .t0) rfl ?_
              refine .nil ?_
              subst hj9
              exact .stj () (.cons Mm.m0 (.cons Mm.m1 .nil)) (.of (.cons .k0 .nil)) .nil
            · rw [if_neg (ne_true_of_eq_false c12)] at hj9
              refine .gyes rfl .g0 ?_
              refine .opp (P.fa .g1 fa_36_1 rfl) rfl ?_
              refine .gyes rfl .g1 ?_
              refine .op (V.ld (v := N a0.Nonce) .t0 .k0 (.one isAgg3 rfl)) rfl ?_
              refine .gyes rfl .g1 ?_
              refine .opp (P.bin .t0 .k .gtr) rfl ?_
              refine .opp (P.pickF .t1 .t0) rfl ?_
              refine .opp (P.mov .t0) rfl ?_
              refine .split .k0 (fun c13 => ?_) (fun c13 => ?_)
              · rw [if_pos c13] at hj9
                refine .gno rfl .g0 rfl rfl ?_
                refine .gno rfl .g0 rfl rfl ?_
                refine .gno rfl .g0 rfl rfl ?_
                refine .opp (P.pickT .t0 .k) rfl ?_
                refine .opp (P.mov .t0) rfl ?_
                refine .gno rfl .g0 rfl rfl ?_
                refine .gno rfl .g0 rfl rfl ?_
                refine .gno rfl .g0 rfl rfl ?_
                refine .opp (P.pickT .t0 .k) rfl ?_
                refine .opp (P.asg .t0) rfl ?_
                refine .nil ?_
                subst hj9
                exact .stj () (.cons Mm.m0 (.cons Mm.m1 .nil)) (.of (.cons .k0 .nil)) .nil
              · rw [if_neg (ne_true_of_eq_false c13)] at hj9
                refine .gyes rfl .g0 ?_
                refine .opp (P.fa .g1 fa_36_3 rfl) rfl ?_
                refine .gyes rfl .g1 ?_
                refine .op (V.ld (v := N a0.Asset) .t0 .k0 (.one isAgg3 rfl)) rfl ?_
                refine .gyes rfl .g1 ?_
                refine .opp (P.bin .t0 .k .lss) rfl ?_
                refine .opp (P.pickF .t1 .t0) rfl ?_
                refine .opp (P.mov .t0) rfl ?_
                refine .split .k0 (fun c14 => ?_) (fun c14 => ?_)
                · rw [if_pos c14] at hj9
                  refine .gno rfl .g0 rfl rfl ?_
                  refine .gno rfl .g0 rfl rfl ?_
                  refine .gno rfl .g0 rfl rfl ?_
                  refine .opp (P.pickT .t0 .k) rfl ?_
                  refine .opp (P.asg .t0) rfl ?_
                  refine .nil ?_
                  subst hj9
                  exact .stj () (.cons Mm.m0 (.cons Mm.m1 .nil)) (.of (.cons .k0 .nil)) .nil
                · rw [if_neg (ne_true_of_eq_false c14)] at hj9
                  refine .gyes rfl .g0 ?_
                  refine .opp (P.fa .g1 fa_36_3 rfl) rfl ?_
                  refine .gyes rfl .g1 ?_
                  refine .op (V.ld (v := N a0.Asset) .t0 .k0 (.one isAgg3 rfl)) rfl ?_
                  refine .gyes rfl .g1 ?_
                  refine .opp (P.bin .t0 .k .geq) rfl ?_
                  refine .opp (P.pickF .t1 .t0) rfl ?_
                  refine .opp (P.asg .t0) rfl ?_
                  refine .nil ?_
                  subst hj9
                  exact .stj () (.cons Mm.m0 (.cons Mm.m1 .nil)) (.of (.cons .k0 .nil)) .nil
      · clear hj9
        refine .cond .t0 (fun c15 => ?_) (fun c15 => ?_)
        · rw [if_pos c15] at h
          refine .seq ?_
          refine .reg rfl ?_
          refine .opp (P.asg .k) rfl ?_
          refine .nil ?_
          refine .then ?_
          refine .ret ?_
          refine .inr ?_
          refine .thr ?_
          subst h
          exact .finw () (.r1 rfl (.tmp .g0)) trivial (Ls.of .nil) .nil
        · rw [if_neg (ne_true_of_eq_false c15)] at h
          refine .seq ?_
          refine .reg rfl ?_
          refine .opp (P.fa .g0 fa_36_2 rfl) rfl ?_
          refine .op (V.ld (v := N a0.Kind) .t0 .k0 (.one isAgg3 rfl)) rfl ?_
          refine .opp (P.bin .t0 .k .lss) rfl ?_
          refine .opp (P.asg .t0) rfl ?_
          refine .nil ?_
          refine .then ?_
          refine .cond .t0 (fun c16 => ?_) (fun c16 => ?_)
          · rw [if_pos c16] at h
            refine .seq ?_
            refine .reg rfl ?_
            refine .op (V.ld (v := Ag (api_Tx.cs a0)) .t0 .k0 (.agg isAgg36 sizeOf36 rfl rfl)) rfl ?_
            refine .opg (G.call call42 (.cons .t0 .nil) (S_txs_route a0 _ rfl) .nil .nil (fun _ _ => rfl) (fun _ _ => rfl) rfl) rfl fun _ _ => ?_
            refine .opp (P.asg .t0) rfl ?_
            refine .nil ?_
            refine .then ?_
            refine .ret ?_
            refine .inr ?_
            refine .thr ?_
            subst h
            exact .finw () (.r1 rfl (.tmp .g0)) trivial (Ls.of .nil) .nil
          · rw [if_neg (ne_true_of_eq_false c16)] at h
            refine .skip ?_
            refine .inn ?_
            refine .then ?_
            refine .seq ?_
            refine .seq ?_
            refine .reg rfl ?_
            refine .opp (P.fa .g0 fa_36_5 rfl) rfl ?_
            refine .op (V.ld (v := Ag (api_Inv.cs a0.Inv)) .t0 .k0 (.agg isAgg32 sizeOf32 rfl rfl)) rfl ?_
            refine .opg (G.call call43 (.cons .t0 .nil) (S_deal_Check a0.Inv _ rfl) .nil .nil (fun _ _ => rfl) (fun _ _ => rfl) rfl) rfl fun _ _ => ?_
            refine .opp (P.asg .t0) rfl ?_
            refine .nil ?_
            refine .then ?_
            refine .seq ?_
            refine .reg rfl ?_
            refine .opp (P.mov .g0) rfl ?_
            refine .opp (P.bin .t0 .k .neq) rfl ?_
            refine .nil ?_
            refine .then ?_
            refine .cond .t0 (fun c17 => ?_) (fun c17 => ?_)
            · rw [if_pos c17] at h
              refine .seq ?_
              refine .reg rfl ?_
              refine .opp (P.mov .t0) rfl ?_
              refine .opp (P.asg .t0) rfl ?_
              refine .nil ?_
              refine .then ?_
              refine .ret ?_
              refine .thr ?_
              subst h
              exact .finw () (.r1 rfl (.tmp .g0)) trivial (Ls.of .nil) .nil
            · rw [if_neg (ne_true_of_eq_false c17)] at h
              refine .skip ?_
              refine .then ?_
              refine .seq ?_
              refine .seq ?_
              refine .reg rfl ?_
              refine .opp (P.fa .g1 fa_36_6 rfl) rfl ?_
              refine .op (V.ld (v := Ag (api_Var.cs a0.Var)) .t0 .k0 (.agg isAgg34 sizeOf34 rfl rfl)) rfl ?_
              refine .opg (G.call call44 (.cons .t0 .nil) (S_deal_Sound a0.Var _ rfl) .nil .nil (fun _ _ => rfl) (fun _ _ => rfl) rfl) rfl fun _ _ => ?_
              refine .opp (P.asg .t0) rfl ?_
              refine .nil ?_
              refine .then ?_
              refine .seq ?_
              refine .reg rfl ?_
              refine .opp (P.mov .g0) rfl ?_
              refine .opp (P.bin .t0 .k .neq) rfl ?_
              refine .nil ?_
              refine .then ?_
              refine .cond .t0 (fun c18 => ?_) (fun c18 => ?_)
              · rw [if_pos c18] at h
                refine .seq ?_
                refine .reg rfl ?_
                refine .opp (P.mov .t0) rfl ?_
                refine .opp (P.asg .t0) rfl ?_
                refine .nil ?_
                refine .then ?_
                refine .ret ?_
                refine .thr ?_
                subst h
                exact .finw () (.r1 rfl (.tmp .g0)) trivial (Ls.of .nil) .nil
              · rw [if_neg (ne_true_of_eq_false c18)] at h
                refine .skip ?_
                refine .then ?_
                refine .seq ?_
                refine .seq ?_
                refine .reg rfl ?_
                refine .opp (P.fa .t2 fa_36_8 rfl) rfl ?_
                refine .op (V.ld (v := .string a0.Sig) .t0 .k0 (.one isAgg9 rfl)) rfl ?_
                refine .opp (P.lens .t0 runUnderlying9) rfl ?_
                refine .opp (P.bin .t0 .k .gtr) rfl ?_
                refine .nil ?_
                refine .then ?_
                refine .cond .t0 (fun c19 => ?_) (fun c19 => ?_)
                · rw [if_pos c19] at h
                  refine .seq ?_
                  refine .reg rfl ?_
                  refine .opp (P.asg .k) rfl ?_
                  refine .nil ?_
                  refine .then ?_
                  refine .ret ?_
                  refine .thr ?_
                  subst h
                  exact .finw () (.r1 rfl (.tmp .g0)) trivial (Ls.of .nil) .nil
                · rw [if_neg (ne_true_of_eq_false c19)] at h
                  refine .skip ?_
                  refine .then ?_
                  refine .seq ?_
                  refine .reg rfl ?_
                  refine .opp (P.asg .k) rfl ?_
                  refine .nil ?_
                  refine .then ?_
                  refine .ret ?_
                  subst h
                  exact .finw () (.r1 rfl (.tmp .g0)) trivial (Ls.of .nil) .nil
attribute [irreducible] txs_Check
noncomputable def purse_at (a0 : Int) (a1 : Int) : Bool :=
  thn (if (decide (a0 ≥ 0)) = true then (if (decide (a0 < 8)) = true then (if (decide (a1 ≥ 0)) = true then (decide (a1 < 2)) else false) else false) else false) fun (y1 : Bool) => y1
set_option maxRecDepth 20000 in
set_option maxHeartbeats 1000000 in
theorem S_purse_at (a0 : Int) (a1 : Int) (r : Bool) (h : purse_at a0 a1 = r) :
    SpecF Tryz.prog 40 [N a0, N a1] [] [] (fun z : Unit => True) (fun z => Bo r) (fun z M =>  M) (fun z M =>  M) := by
  refine .of func40 rfl ntmps40 rfl fun w0 D0 G0 => ?_
  unfold purse_at at h
  refine .seq ?_
  refine .reg rfl ?_
  refine .op0 (OpP.toV (P.asg .k)) rfl ?_
  refine .nil ?_
  refine .then ?_
  obtain ⟨y1, hj3, h⟩ := thn_eq h
  refine .cutx (γ := Unit) (E1 := fun z2 => [(4, Bo y1)]) (L1 := fun z2 => []) (R1 := fun z2 => []) ?_ (fun z2 => ?_)
  · clear h
    refine .reg rfl ?_
    refine .opp (P.mov .g0) rfl ?_
    refine .opp (P.bin .t0 .k .geq) rfl ?_
    refine .opp (P.mov .t0) rfl ?_
    refine .split .k0 (fun c4 => ?_) (fun c4 => ?_)
    · rw [if_pos c4] at hj3
      refine .gyes rfl .g0 ?_
      refine .opp (P.mov .t1) rfl ?_
      refine .gyes rfl .g1 ?_
      refine .opp (P.bin .t0 .k .lss) rfl ?_
      refine .opp (P.pickT .t1 .t0) rfl ?_
      refine .opp (P.mov .t0) rfl ?_
      refine .split .k0 (fun c5 => ?_) (fun c5 => ?_)
      · rw [if_pos c5] at hj3
        refine .gyes rfl .g0 ?_
        refine .opp (P.mov .g1) rfl ?_
        refine .gyes rfl .g1 ?_
        refine .opp (P.bin .t0 .k .geq) rfl ?_
        refine .opp (P.pickT .t1 .t0) rfl ?_
        refine .opp (P.mov .t0) rfl ?_
        refine .split .k0 (fun c6 => ?_) (fun c6 => ?_)
        · rw [if_pos c6] at hj3
          refine .gyes rfl .g0 ?_
          refine .opp (P.mov .t1) rfl ?_
          refine .gyes rfl .g1 ?_
          refine .opp (P.bin .t0 .k .lss) rfl ?_
          refine .opp (P.pickT .t1 .t0) rfl ?_
          refine .opp (P.asg .t0) rfl ?_
          refine .nil ?_
          subst hj3
          exact .stj () (.cons Mm.m0 .nil) (.of .nil) .nil
        · rw [if_neg (ne_true_of_eq_false c6)] at hj3
          refine .gno rfl .g0 rfl rfl ?_
          refine .gno rfl .g0 rfl rfl ?_
          refine .opp (P.pickF .t0 .k) rfl ?_
          refine .opp (P.asg .t0) rfl ?_
          refine .nil ?_
          subst hj3
          exact .stj () (.cons Mm.m0 .nil) (.of .nil) .nil
      · rw [if_neg (ne_true_of_eq_false c5)] at hj3
        refine .gno rfl .g0 rfl rfl ?_
        refine .gno rfl .g0 rfl rfl ?_
        refine .opp (P.pickF .t0 .k) rfl ?_
        refine .opp (P.mov .t0) rfl ?_
        refine .gno rfl .g0 rfl rfl ?_
        refine .gno rfl .g0 rfl rfl ?_
        refine .opp (P.pickF .t0 .k) rfl ?_
        refine .opp (P.asg .t0) rfl ?_
        refine .nil ?_
        subst hj3
        exact .stj () (.cons Mm.m0 .nil) (.of .nil) .nil
    · rw [if_neg (ne_true_of_eq_false c4)] at hj3
      refine .gno rfl .g0 rfl rfl ?_
      refine .gno rfl .g0 rfl rfl ?_
      refine .opp (P.pickF .t0 .k) rfl ?_
      refine .opp (P.mov .t0) rfl ?_
      refine .gno rfl .g0 rfl rfl ?_
      refine .gno rfl .g0 rfl rfl ?_
      refine .opp (P.pickF .t0 .k) rfl ?_
      refine .opp (P.mov .t0) rfl ?_
      refine .gno rfl .g0 rfl rfl ?_
      refine .gno rfl .g0 rfl rfl ?_
      refine .opp (P.pickF .t0 .k) rfl ?_
      refine .opp (P.asg .t0) rfl ?_
      refine .nil ?_
      subst hj3
      exact .stj () (.cons Mm.m0 .nil) (.of .nil) .nil
  · clear hj3
    refine .ret ?_
    subst h
    exact .finw () (.r1 rfl (.tmp .g0)) trivial (Ls.of .nil) .nil
attribute [irreducible] purse_at
noncomputable def wide_Sub (a0 : api_Wide) (a1 : api_Wide) : api_Wide × Bool :=
  if (decide ((sub64 a0.a3 a1.a3 (sub64 a0.a2 a1.a2 (sub64 a0.a1 a1.a1 (sub64 a0.a0 a1.a0 0).2).2).2).2 ≠ 0)) = true then (⟨0, 0, 0, 0⟩, false) else ((⟨(sub64 a0.a0 a1.a0 0).1, (sub64 a0.a1 a1.a1 (sub64 a0.a0 a1.a0 0).2).1, (sub64 a0.a2 a1.a2 (sub64 a0.a1 a1.a1 (sub64 a0.a0 a1.a0 0).2).2).1, (sub64 a0.a3 a1.a3 (sub64 a0.a2 a1.a2 (sub64 a0.a1 a1.a1 (sub64 a0.a0 a1.a0 0).2).2).2).1⟩, true))
set_option maxRecDepth 20000 in
set_option maxHeartbeats 1000000 in
theorem S_wide_Sub (a0 : api_Wide) (a1 : api_Wide) (r : api_Wide × Bool) (h : wide_Sub a0 a1 = r) :
    SpecF Tryz.prog 39 [Ag (api_Wide.cs a0), Ag (api_Wide.cs a1)] [] [] (fun z : Unit => True) (fun z => Tu [Ag (api_Wide.cs r.1), Bo r.2]) (fun z M =>  M) (fun z M =>  M) := by
  refine .of func39 rfl ntmps39 rfl fun w0 D0 G0 => ?_
  unfold wide_Sub at h
  refine .seq ?_
  refine .reg rfl ?_
  refine .opx (X.box (cs := (api_Wide.cs a0)) .t0 rfl) rfl fun b1 => ?_
  refine .opx (X.box (cs := (api_Wide.cs a1)) .t1 rfl) rfl fun b2 => ?_
  refine .opx (X.alc (cs := (api_Wide.cs ⟨0, 0, 0, 0⟩)) zeroValue30 rfl) rfl fun b3 => ?_
  refine .op0 (OpP.toV (P.asg .k)) rfl ?_
  refine .nil ?_
  refine .then ?_
  refine .seq ?_
  refine .reg rfl ?_
  refine .opx (X.alc (cs := (api_Wide.cs ⟨0, 0, 0, 0⟩)) zeroValue30 rfl) rfl fun b4 => ?_
  refine .nil ?_
  refine .then ?_
  refine .seq ?_
  refine .reg rfl ?_
  refine .opp (P.asg .k) rfl ?_
  refine .nil ?_
  refine .then ?_
  refine .seq ?_
  refine .seq ?_
  refine .reg rfl ?_
  refine .opp (P.mov .k) rfl ?_
  refine .nil ?_
  refine .then ?_
  refine .block ?_
  refine .rounds 5 ?_
  refine .rd ?_
  refine .seq ?_
  refine .reg rfl ?_
  refine .opp (P.bin (v := Bo true) .g0 .k (BinV.lss.boolc (by decide))) rfl ?_
  refine .nil ?_
  refine .then ?_
  refine .seq ?_
  refine .condT .t0 ?_
  refine .skip ?_
  refine .then ?_
  refine .seq ?_
  refine .block ?_
  refine .seq ?_
  refine .reg rfl ?_
  refine .opp (P.mov .g0) rfl ?_
  refine .opp (P.asg .t0) rfl ?_
  refine .nil ?_
  refine .then ?_
  refine .drawl [blk b3 30 (api_Wide.cs ⟨0, 0, 0, 0⟩), blk b2 30 (api_Wide.cs a1), blk b1 30 (api_Wide.cs a0)] [] (Ls.of (.cons .k1 (.cons .k1 (.cons .k1 .nil)))) Rs.nil 15 (.on 0 .pu (.on 1 .pu (.on 2 .pu (.on 4 .pu (.on 5 .pu (.on 7 .pu (.on 3 .ld (.on 6 .ld (.on 8 .pu (.on 9 .pu (.on 10 .pu (.on 11 .pu (.on 12 .pu (.on 13 .go (.on 14 .go .nl))))))))))))))) follows_mixed (.inb (.thn (.thn (.inb (.thn .body))))) (by kernel_rfl) ?_
  refine .dpu rfl (.n rfl) (P.mov .g0) rfl rfl ?_
  refine .dpu rfl (.n rfl) (P.mov .g1) rfl rfl ?_
  refine .dpu rfl (.n rfl) (P.iac (i := 0) .t0 rfl .g7 runUnderlying30 sizeOf28 rfl rfl) rfl rfl ?_
  refine .dpu rfl (.n rfl) (P.mov .t2) rfl rfl ?_
  refine .dpu rfl (.n rfl) (P.iac (i := 0) .t0 rfl .g6 runUnderlying30 sizeOf28 rfl rfl) rfl rfl ?_
  refine .dpu rfl (.n rfl) (P.mov .g4) rfl rfl ?_
  refine .dld rfl (.n rfl) (V.ld (v := U a0.a0) .t2 .k2 (.one isAgg28 rfl)) (fun _ h => (h.imp (Ls.of (.cons .k1 (.cons .k1 (.cons .k1 .nil))))).ro Rs.nil) rfl rfl ?_
  refine .dld rfl (.n rfl) (V.ld (v := U a1.a0) .t2 .k1 (.one isAgg28 rfl)) (fun _ h => (h.imp (Ls.of (.cons .k1 (.cons .k1 (.cons .k1 .nil))))).ro Rs.nil) rfl rfl ?_
  refine .dpu rfl (.n rfl) (P.extn (.cons .t1 (.cons .t0 (.cons .t0 .nil))) func53 rfl rfl fn_53 find_53 (run_sub64u _ _ 0 zero_le1)) rfl rfl ?_
  refine .dpu rfl (.n rfl) (P.mov .t0) rfl rfl ?_
  refine .dpu rfl (.n rfl) (P.ext (v := U (sub64 a0.a0 a1.a0 0).1) .g0 rfl) rfl rfl ?_
  refine .dpu rfl (.n rfl) (P.ext (v := U (sub64 a0.a0 a1.a0 0).2) .t1 rfl) rfl rfl ?_
  refine .dpu rfl (.n rfl) (P.iac (i := 0) .t2 rfl .g4 runUnderlying30 sizeOf28 rfl rfl) rfl rfl ?_
  refine .dgo rfl (.n rfl) (G.str .t2 .t0 .k0 (.mk (cs' := (api_Wide.cs ⟨(sub64 a0.a0 a1.a0 0).1, 0, 0, 0⟩)) sizeOf28 rfl rfl rfl rfl)) (.inr fun _ _ _ h => (h.imp (Ls.of (.cons .k1 (.cons .k1 (.cons .k1 .nil))))).ro Rs.nil) fun _ _ => ?_
  refine .drop .k2 ?_
  refine .dgo rfl (.n rfl) (OpV.g (OpP.toV (P.asg .t0)) rfl) (.inr fun _ _ _ h => (h.imp (Ls.of (.cons .k1 (.cons .k1 (.cons .k1 .nil))))).ro Rs.nil) fun _ _ => ?_
  refine .dnil ?_
  refine .inn ?_
  refine .then ?_
  refine .reg rfl ?_
  refine .opp (P.bin (v := N 1) .g1 .k (.addc (by decide))) rfl ?_
  refine .drop .k2 ?_
  refine .opp (P.mov .t0) rfl ?_
  refine .nil ?_
  refine .then ?_
  refine .rd ?_
  refine .seq ?_
  refine .reg rfl ?_
  refine .opp (P.bin (v := Bo true) .g0 .k (BinV.lss.boolc (by decide))) rfl ?_
  refine .nil ?_
  refine .then ?_
  refine .seq ?_
  refine .condT .t0 ?_
  refine .skip ?_
  refine .then ?_
  refine .seq ?_
  refine .block ?_
  refine .seq ?_
  refine .reg rfl ?_
  refine .opp (P.mov .g0) rfl ?_
  refine .opp (P.asg .t0) rfl ?_
  refine .nil ?_
  refine .then ?_
  refine .drawl [blk b3 30 (api_Wide.cs ⟨0, 0, 0, 0⟩), blk b2 30 (api_Wide.cs a1), blk b1 30 (api_Wide.cs a0)] [] (Ls.of (.cons .k1 (.cons .k1 (.cons .k1 .nil)))) Rs.nil 15 (.on 0 .pu (.on 1 .pu (.on 2 .pu (.on 4 .pu (.on 5 .pu (.on 7 .pu (.on 3 .ld (.on 6 .ld (.on 8 .pu (.on 9 .pu (.on 10 .pu (.on 11 .pu (.on 12 .pu (.on 13 .go (.on 14 .go .nl))))))))))))))) follows_mixed (.inb (.thn (.thn (.inb (.thn .body))))) (by kernel_rfl) ?_
  refine .dpu rfl (.n rfl) (P.mov .g0) rfl rfl ?_
  refine .dpu rfl (.n rfl) (P.mov .g1) rfl rfl ?_
  refine .dpu rfl (.n rfl) (P.iac (i := 1) .t0 rfl .g7 runUnderlying30 sizeOf28 rfl rfl) rfl rfl ?_
  refine .dpu rfl (.n rfl) (P.mov .t2) rfl rfl ?_
  refine .dpu rfl (.n rfl) (P.iac (i := 1) .t0 rfl .g6 runUnderlying30 sizeOf28 rfl rfl) rfl rfl ?_
  refine .dpu rfl (.n rfl) (P.mov .g4) rfl rfl ?_
  refine .dld rfl (.n rfl) (V.ld (v := U a0.a1) .t2 .k2 (.one isAgg28 rfl)) (fun _ h => (h.imp (Ls.of (.cons .k1 (.cons .k1 (.cons .k1 .nil))))).ro Rs.nil) rfl rfl ?_
  refine .dld rfl (.n rfl) (V.ld (v := U a1.a1) .t2 .k1 (.one isAgg28 rfl)) (fun _ h => (h.imp (Ls.of (.cons .k1 (.cons .k1 (.cons .k1 .nil))))).ro Rs.nil) rfl rfl ?_
  refine .dpu rfl (.n rfl) (P.extn (.cons .t1 (.cons .t0 (.cons .t0 .nil))) func53 rfl rfl fn_53 find_53 (run_sub64u _ _ _ sub64_le)) rfl rfl ?_
  refine .dpu rfl (.n rfl) (P.mov .t0) rfl rfl ?_
  refine .dpu rfl (.n rfl) (P.ext (v := U (sub64 a0.a1 a1.a1 (sub64 a0.a0 a1.a0 0).2).1) .g0 rfl) rfl rfl ?_
  refine .dpu rfl (.n rfl) (P.ext (v := U (sub64 a0.a1 a1.a1 (sub64 a0.a0 a1.a0 0).2).2) .t1 rfl) rfl rfl ?_
  refine .dpu rfl (.n rfl) (P.iac (i := 1) .t2 rfl .g4 runUnderlying30 sizeOf28 rfl rfl) rfl rfl ?_
  refine .dgo rfl (.n rfl) (G.str .t2 .t0 .k0 (.mk (cs' := (api_Wide.cs ⟨(sub64 a0.a0 a1.a0 0).1, (sub64 a0.a1 a1.a1 (sub64 a0.a0 a1.a0 0).2).1, 0, 0⟩)) sizeOf28 rfl rfl rfl rfl)) (.inr fun _ _ _ h => (h.imp (Ls.of (.cons .k1 (.cons .k1 (.cons .k1 .nil))))).ro Rs.nil) fun _ _ => ?_
  refine .drop .k2 ?_
  refine .dgo rfl (.n rfl) (OpV.g (OpP.toV (P.asg .t0)) rfl) (.inr fun _ _ _ h => (h.imp (Ls.of (.cons .k1 (.cons .k1 (.cons .k1 .nil))))).ro Rs.nil) fun _ _ => ?_
  refine .dnil ?_
  refine .inn ?_
  refine .then ?_
  refine .reg rfl ?_
  refine .opp (P.bin (v := N 2) .g1 .k (.addc (by decide))) rfl ?_
  refine .drop .k2 ?_
  refine .opp (P.mov .t0) rfl ?_
  refine .nil ?_
  refine .then ?_
  refine .rd ?_
  refine .seq ?_
  refine .reg rfl ?_
  refine .opp (P.bin (v := Bo true) .g0 .k (BinV.lss.boolc (by decide))) rfl ?_
  refine .nil ?_
  refine .then ?_
  refine .seq ?_
  refine .condT .t0 ?_
  refine .skip ?_
  refine .then ?_
  refine .seq ?_
  refine .block ?_
  refine .seq ?_
  refine .reg rfl ?_
  refine .opp (P.mov .g0) rfl ?_
  refine .opp (P.asg .t0) rfl ?_
  refine .nil ?_
  refine .then ?_
  refine .drawl [blk b3 30 (api_Wide.cs ⟨0, 0, 0, 0⟩), blk b2 30 (api_Wide.cs a1), blk b1 30 (api_Wide.cs a0)] [] (Ls.of (.cons .k1 (.cons .k1 (.cons .k1 .nil)))) Rs.nil 15 (.on 0 .pu (.on 1 .pu (.on 2 .pu (.on 4 .pu (.on 5 .pu (.on 7 .pu (.on 3 .ld (.on 6 .ld (.on 8 .pu (.on 9 .pu (.on 10 .pu (.on 11 .pu (.on 12 .pu (.on 13 .go (.on 14 .go .nl))))))))))))))) follows_mixed (.inb (.thn (.thn (.inb (.thn .body))))) (by kernel_rfl) ?_
  refine .dpu rfl (.n rfl) (P.mov .g0) rfl rfl ?_
  refine .dpu rfl (.n rfl) (P.mov .g1) rfl rfl ?_
  refine .dpu rfl (.n rfl) (P.iac (i := 2) .t0 rfl .g7 runUnderlying30 sizeOf28 rfl rfl) rfl rfl ?_
  refine .dpu rfl (.n rfl) (P.mov .t2) rfl rfl ?_
  refine .dpu rfl (.n rfl) (P.iac (i := 2) .t0 rfl .g6 runUnderlying30 sizeOf28 rfl rfl) rfl rfl ?_
  refine .dpu rfl (.n rfl) (P.mov .g4) rfl rfl ?_
  refine .dld rfl (.n rfl) (V.ld (v := U a0.a2) .t2 .k2 (.one isAgg28 rfl)) (fun _ h => (h.imp (Ls.of (.cons .k1 (.cons .k1 (.cons .k1 .nil))))).ro Rs.nil) rfl rfl ?_
  refine .dld rfl (.n rfl) (V.ld (v := U a1.a2) .t2 .k1 (.one isAgg28 rfl)) (fun _ h => (h.imp (Ls.of (.cons .k1 (.cons .k1 (.cons .k1 .nil))))).ro Rs.nil) rfl rfl ?_
  refine .dpu rfl (.n rfl) (P.extn (.cons .t1 (.cons .t0 (.cons .t0 .nil))) func53 rfl rfl fn_53 find_53 (run_sub64u _ _ _ sub64_le)) rfl rfl ?_
  refine .dpu rfl (.n rfl) (P.mov .t0) rfl rfl ?_
  refine .dpu rfl (.n rfl) (P.ext (v := U (sub64 a0.a2 a1.a2 (sub64 a0.a1 a1.a1 (sub64 a0.a0 a1.a0 0).2).2).1) .g0 rfl) rfl rfl ?_
  refine .dpu rfl (.n rfl) (P.ext (v := U (sub64 a0.a2 a1.a2 (sub64 a0.a1 a1.a1 (sub64 a0.a0 a1.a0 0).2).2).2) .t1 rfl) rfl rfl ?_
  refine .dpu rfl (.n rfl) (P.iac (i := 2) .t2 rfl .g4 runUnderlying30 sizeOf28 rfl rfl) rfl rfl ?_
  refine .dgo rfl (.n rfl) (G.str .t2 .t0 .k0 (.mk (cs' := (api_Wide.cs ⟨(sub64 a0.a0 a1.a0 0).1, (sub64 a0.a1 a1.a1 (sub64 a0.a0 a1.a0 0).2).1, (sub64 a0.a2 a1.a2 (sub64 a0.a1 a1.a1 (sub64 a0.a0 a1.a0 0).2).2).1, 0⟩)) sizeOf28 rfl rfl rfl rfl)) (.inr fun _ _ _ h => (h.imp (Ls.of (.cons .k1 (.cons .k1 (.cons .k1 .nil))))).ro Rs.nil) fun _ _ => ?_
  refine .drop .k2 ?_
  refine .dgo rfl (.n rfl) (OpV.g (OpP.toV (P.asg .t0)) rfl) (.inr fun _ _ _ h => (h.imp (Ls.of (.cons .k1 (.cons .k1 (.cons .k1 .nil))))).ro Rs.nil) fun _ _ => ?_
  refine .dnil ?_
  refine .inn ?_
  refine .then ?_
  refine .reg rfl ?_
  refine .opp (P.bin (v := N 3) .g1 .k (.addc (by decide))) rfl ?_
  refine .drop .k2 ?_
  refine .opp (P.mov .t0) rfl ?_
  refine .nil ?_
  refine .then ?_
  refine .rd ?_
  refine .seq ?_
  refine .reg rfl ?_
  refine .opp (P.bin (v := Bo true) .g0 .k (BinV.lss.boolc (by decide))) rfl ?_
  refine .nil ?_
  refine .then ?_
  refine .seq ?_
  refine .condT .t0 ?_
  refine .skip ?_
  refine .then ?_
  refine .seq ?_
  refine .block ?_
  refine .seq ?_
  refine .reg rfl ?_
  refine .opp (P.mov .g0) rfl ?_
  refine .opp (P.asg .t0) rfl ?_
  refine .nil ?_
  refine .then ?_
  refine .drawl [blk b3 30 (api_Wide.cs ⟨0, 0, 0, 0⟩), blk b2 30 (api_Wide.cs a1), blk b1 30 (api_Wide.cs a0)] [] (Ls.of (.cons .k1 (.cons .k1 (.cons .k1 .nil)))) Rs.nil 15 (.on 0 .pu (.on 1 .pu (.on 2 .pu (.on 4 .pu (.on 5 .pu (.on 7 .pu (.on 3 .ld (.on 6 .ld (.on 8 .pu (.on 9 .pu (.on 10 .pu (.on 11 .pu (.on 12 .pu (.on 13 .go (.on 14 .go .nl))))))))))))))) follows_mixed (.inb (.thn (.thn (.inb (.thn .body))))) (by kernel_rfl) ?_
  refine .dpu rfl (.n rfl) (P.mov .g0) rfl rfl ?_
  refine .dpu rfl (.n rfl) (P.mov .g1) rfl rfl ?_
  refine .dpu rfl (.n rfl) (P.iac (i := 3) .t0 rfl .g7 runUnderlying30 sizeOf28 rfl rfl) rfl rfl ?_
  refine .dpu rfl (.n rfl) (P.mov .t2) rfl rfl ?_
  refine .dpu rfl (.n rfl) (P.iac (i := 3) .t0 rfl .g6 runUnderlying30 sizeOf28 rfl rfl) rfl rfl ?_
  refine .dpu rfl (.n rfl) (P.mov .g4) rfl rfl ?_
  refine .dld rfl (.n rfl) (V.ld (v := U a0.a3) .t2 .k2 (.one isAgg28 rfl)) (fun _ h => (h.imp (Ls.of (.cons .k1 (.cons .k1 (.cons .k1 .nil))))).ro Rs.nil) rfl rfl ?_
  refine .dld rfl (.n rfl) (V.ld (v := U a1.a3) .t2 .k1 (.one isAgg28 rfl)) (fun _ h => (h.imp (Ls.of (.cons .k1 (.cons .k1 (.cons .k1 .nil))))).ro Rs.nil) rfl rfl ?_
  refine .dpu rfl (.n rfl) (P.extn (.cons .t1 (.cons .t0 (.cons .t0 .nil))) func53 rfl rfl fn_53 find_53 (run_sub64u _ _ _ sub64_le)) rfl rfl ?_
  refine .dpu rfl (.n rfl) (P.mov .t0) rfl rfl ?_
  refine .dpu rfl (.n rfl) (P.ext (v := U (sub64 a0.a3 a1.a3 (sub64 a0.a2 a1.a2 (sub64 a0.a1 a1.a1 (sub64 a0.a0 a1.a0 0).2).2).2).1) .g0 rfl) rfl rfl ?_
  refine .dpu rfl (.n rfl) (P.ext (v := U (sub64 a0.a3 a1.a3 (sub64 a0.a2 a1.a2 (sub64 a0.a1 a1.a1 (sub64 a0.a0 a1.a0 0).2).2).2).2) .t1 rfl) rfl rfl ?_
  refine .dpu rfl (.n rfl) (P.iac (i := 3) .t2 rfl .g4 runUnderlying30 sizeOf28 rfl rfl) rfl rfl ?_
  refine .dgo rfl (.n rfl) (G.str .t2 .t0 .k0 (.mk (cs' := (api_Wide.cs ⟨(sub64 a0.a0 a1.a0 0).1, (sub64 a0.a1 a1.a1 (sub64 a0.a0 a1.a0 0).2).1, (sub64 a0.a2 a1.a2 (sub64 a0.a1 a1.a1 (sub64 a0.a0 a1.a0 0).2).2).1, (sub64 a0.a3 a1.a3 (sub64 a0.a2 a1.a2 (sub64 a0.a1 a1.a1 (sub64 a0.a0 a1.a0 0).2).2).2).1⟩)) sizeOf28 rfl rfl rfl rfl)) (.inr fun _ _ _ h => (h.imp (Ls.of (.cons .k1 (.cons .k1 (.cons .k1 .nil))))).ro Rs.nil) fun _ _ => ?_
  refine .drop .k2 ?_
  refine .dgo rfl (.n rfl) (OpV.g (OpP.toV (P.asg .t0)) rfl) (.inr fun _ _ _ h => (h.imp (Ls.of (.cons .k1 (.cons .k1 (.cons .k1 .nil))))).ro Rs.nil) fun _ _ => ?_
  refine .dnil ?_
  refine .inn ?_
  refine .then ?_
  refine .reg rfl ?_
  refine .opp (P.bin (v := N 4) .g1 .k (.addc (by decide))) rfl ?_
  refine .drop .k2 ?_
  refine .opp (P.mov .t0) rfl ?_
  refine .nil ?_
  refine .then ?_
  refine .rd ?_
  refine .seq ?_
  refine .reg rfl ?_
  refine .opp (P.bin (v := Bo false) .g0 .k (BinV.lss.boolc (by decide))) rfl ?_
  refine .nil ?_
  refine .then ?_
  refine .seq ?_
  refine .condF .t0 ?_
  refine .exit ?_
  refine .thx ?_
  refine .thx ?_
  refine .inb ?_
  refine .then ?_
  refine .seq ?_
  refine .seq ?_
  refine .reg rfl ?_
  refine .opp (P.mov .t1) rfl ?_
  refine .opp (P.bin .t0 .k (BinV.neqU (x := (sub64 a0.a3 a1.a3 (sub64 a0.a2 a1.a2 (sub64 a0.a1 a1.a1 (sub64 a0.a0 a1.a0 0).2).2).2).2) (y := 0))) rfl ?_
  refine .nil ?_
  refine .then ?_
  refine .cond .t0 (fun c5 => ?_) (fun c5 => ?_)
  · rw [if_pos c5] at h
    refine .seq ?_
    refine .reg rfl ?_
    refine .opp (P.bld (v := Ag (api_Wide.cs ⟨0, 0, 0, 0⟩)) .nil (bld_runA zeroValue30 runUnderlying30 sizeOf28 (by kernel_rfl))) rfl ?_
    refine .opg (G.str .t0 .g2 .k1 (.mk (cs' := (api_Wide.cs ⟨0, 0, 0, 0⟩)) sizeOf30 rfl rfl rfl rfl)) rfl fun _ _ => ?_
    refine .opp (P.asg .k) rfl ?_
    refine .nil ?_
    refine .then ?_
    refine .ret ?_
    refine .thr ?_
    subst h
    exact .finw () (.r2 rfl (.cell .g3 .k0 (.agg isAgg30 sizeOf30 rfl rfl)) (.tmp .g0)) trivial (Ls.of .nil) .nil
  · rw [if_neg (ne_true_of_eq_false c5)] at h
    refine .skip ?_
    refine .then ?_
    refine .seq ?_
    refine .reg rfl ?_
    refine .op (V.ld (v := Ag (api_Wide.cs ⟨(sub64 a0.a0 a1.a0 0).1, (sub64 a0.a1 a1.a1 (sub64 a0.a0 a1.a0 0).2).1, (sub64 a0.a2 a1.a2 (sub64 a0.a1 a1.a1 (sub64 a0.a0 a1.a0 0).2).2).1, (sub64 a0.a3 a1.a3 (sub64 a0.a2 a1.a2 (sub64 a0.a1 a1.a1 (sub64 a0.a0 a1.a0 0).2).2).2).1⟩)) .t1 .k0 (.agg isAgg30 sizeOf30 rfl rfl)) rfl ?_
    refine .opg (G.str .t0 .g1 .k1 (.mk (cs' := (api_Wide.cs ⟨(sub64 a0.a0 a1.a0 0).1, (sub64 a0.a1 a1.a1 (sub64 a0.a0 a1.a0 0).2).1, (sub64 a0.a2 a1.a2 (sub64 a0.a1 a1.a1 (sub64 a0.a0 a1.a0 0).2).2).1, (sub64 a0.a3 a1.a3 (sub64 a0.a2 a1.a2 (sub64 a0.a1 a1.a1 (sub64 a0.a0 a1.a0 0).2).2).2).1⟩)) sizeOf30 rfl rfl rfl rfl)) rfl fun _ _ => ?_
    refine .opp (P.asg .k) rfl ?_
    refine .nil ?_
    refine .then ?_
    refine .ret ?_
    subst h
    exact .finw () (.r2 rfl (.cell .g2 .k0 (.agg isAgg30 sizeOf30 rfl rfl)) (.tmp .g0)) trivial (Ls.of .nil) .nil
attribute [irreducible] wide_Sub
noncomputable def purse_Book_Take (a0 : purse_Book) (a1 : Int) (a2 : Int) (a3 : api_Wide) : Option (purse_Book × Int) :=
  if (!(purse_at a1 a2)) = true then (some (a0, 4)) else (Option.bind (at_ (purse_Book.list a0) a1) fun (x5 : A2_api_Wide) => Option.bind (at_ (A2_api_Wide.list x5) a2) fun (x9 : api_Wide) => if (!(wide_Sub x9 a3).2) = true then (some (a0, 30)) else (Option.bind (at_ (purse_Book.list a0) a1) fun (x15 : A2_api_Wide) => Option.bind (at_ (A2_api_Wide.list x15) a2) fun (x19 : api_Wide) => some ((purse_Book.set a0 (a1).toNat (A2_api_Wide.set x15 (a2).toNat (wide_Sub x9 a3).1), 0))))
set_option maxRecDepth 20000 in
set_option maxHeartbeats 1000000 in
theorem S_purse_Book_Take (a0 : purse_Book) (a1 : Int) (a2 : Int) (a3 : api_Wide) (r : purse_Book × Int) (h : purse_Book_Take a0 a1 a2 a3 = some r) :
    SpecF Tryz.prog 46 [Ag (purse_Book.cs a0), N a1, N a2, Ag (api_Wide.cs a3)] [] [] (fun z : Unit => True) (fun z => Tu [Ag (purse_Book.cs r.1), N r.2]) (fun z M =>  M) (fun z M =>  M) := by
  refine .of func46 rfl ntmps46 rfl fun w0 D0 G0 => ?_
  unfold purse_Book_Take at h
  refine .seq ?_
  refine .reg rfl ?_
  refine .opx (X.box (cs := (purse_Book.cs a0)) .t0 rfl) rfl fun b1 => ?_
  refine .opx (X.box (cs := (api_Wide.cs a3)) .t3 rfl) rfl fun b2 => ?_
  refine .opx (X.alc (cs := (purse_Book.cs ⟨⟨⟨0, 0, 0, 0⟩, ⟨0, 0, 0, 0⟩⟩, ⟨⟨0, 0, 0, 0⟩, ⟨0, 0, 0, 0⟩⟩, ⟨⟨0, 0, 0, 0⟩, ⟨0, 0, 0, 0⟩⟩, ⟨⟨0, 0, 0, 0⟩, ⟨0, 0, 0, 0⟩⟩, ⟨⟨0, 0, 0, 0⟩, ⟨0, 0, 0, 0⟩⟩, ⟨⟨0, 0, 0, 0⟩, ⟨0, 0, 0, 0⟩⟩, ⟨⟨0, 0, 0, 0⟩, ⟨0, 0, 0, 0⟩⟩, ⟨⟨0, 0, 0, 0⟩, ⟨0, 0, 0, 0⟩⟩⟩)) zeroValue41 rfl) rfl fun b3 => ?_
  refine .op0 (OpP.toV (P.asg .k)) rfl ?_
  refine .nil ?_
  refine .then ?_
  refine .seq ?_
  refine .seq ?_
  refine .reg rfl ?_
  refine .opp (P.mov .g3) rfl ?_
  refine .opp (P.mov .g5) rfl ?_
  refine .opg (G.call call40 (.cons .t1 (.cons .t0 .nil)) (S_purse_at a1 a2 _ rfl) .nil .nil (fun _ _ => rfl) (fun _ _ => rfl) rfl) rfl fun _ _ => ?_
  refine .opp (P.not .t0) rfl ?_
  refine .nil ?_
  refine .then ?_
  refine .cond .t0 (fun c4 => ?_) (fun c4 => ?_)
  · rw [if_pos c4] at h
    refine .seq ?_
    refine .reg rfl ?_
    refine .op (V.ld (v := Ag (purse_Book.cs a0)) .t2 .k2 (.agg isAgg41 sizeOf41 rfl rfl)) rfl ?_
    refine .opg (G.str .t0 .g0 .k0 (.mk (cs' := (purse_Book.cs a0)) sizeOf41 rfl rfl rfl rfl)) rfl fun _ _ => ?_
    refine .opp (P.asg .k) rfl ?_
    refine .nil ?_
    refine .then ?_
    refine .ret ?_
    refine .thr ?_
    cases h
    exact .finw () (.r2 rfl (.cell .g1 .k0 (.agg isAgg41 sizeOf41 rfl rfl)) (.tmp .g0)) trivial (Ls.of .nil) .nil
  · rw [if_neg (ne_true_of_eq_false c4)] at h
    refine .skip ?_
    refine .then ?_
    refine .seq ?_
    obtain ⟨x5, hx6, h⟩ := bnd_eq h
    obtain ⟨i7, hi8, hx6⟩ := at_eq hx6
    have hi8_ : (a1).toNat = i7 := by rw [hi8]; rfl
    obtain ⟨x9, hx10, h⟩ := bnd_eq h
    obtain ⟨i11, hi12, hx10⟩ := at_eq hx10
    have hi12_ : (a2).toNat = i11 := by rw [hi12]; rfl
    refine .dcut (γ := Nat) (φ := fun _ => True) (E1 := fun x_ => [(11, Bo (wide_Sub x9 a3).2), (10, pt x_ 0), (8, pt b3 0), (4, pt b1 0), (1, N a1), (2, N a2)]) (L1 := fun x_ => [blk x_ 30 (api_Wide.cs (wide_Sub x9 a3).1), blk b3 41 (purse_Book.cs ⟨⟨⟨0, 0, 0, 0⟩, ⟨0, 0, 0, 0⟩⟩, ⟨⟨0, 0, 0, 0⟩, ⟨0, 0, 0, 0⟩⟩, ⟨⟨0, 0, 0, 0⟩, ⟨0, 0, 0, 0⟩⟩, ⟨⟨0, 0, 0, 0⟩, ⟨0, 0, 0, 0⟩⟩, ⟨⟨0, 0, 0, 0⟩, ⟨0, 0, 0, 0⟩⟩, ⟨⟨0, 0, 0, 0⟩, ⟨0, 0, 0, 0⟩⟩, ⟨⟨0, 0, 0, 0⟩, ⟨0, 0, 0, 0⟩⟩, ⟨⟨0, 0, 0, 0⟩, ⟨0, 0, 0, 0⟩⟩⟩), blk b2 30 (api_Wide.cs a3), blk b1 41 (purse_Book.cs a0)]) (R1 := fun x_ => []) ?_ (fun b13 _ => ?_)
    · refine .draw 13 (.on 0 .pu (.on 1 .pu (.on 2 .pu (.on 3 .pu (.on 4 .ld (.on 5 .ld (.fk 6 10 (.on 7 .pu (.on 8 .pu (.on 9 .pu (.on 10 .go (.on 11 .go (.on 12 .go .nl)))))) (.on 6 .go (.on 7 .pu (.on 8 .pu (.on 9 .pu (.on 11 .go (.on 12 .go .nl))))))))))))) follows_mixed (.thn (.thn .body)) (by kernel_rfl) ?_
      refine .dpu rfl (.n rfl) (P.mov .g3) rfl rfl ?_
      refine .dpu rfl (.n rfl) (P.mov .g5) rfl rfl ?_
      refine .dpu rfl (.n rfl) (P.iad (i := i7) (off' := (0 + i7 * 8)) .t1 hi8 .g3 runUnderlying41 sizeOf39 (lt_of_get hx6) rfl) rfl rfl ?_
      refine .dpu rfl (.n rfl) (P.iad (i := i11) (off' := ((0 + i7 * 8) + i11 * 4)) .t1 hi12 .t0 runUnderlying39 sizeOf30 (lt_of_get hx10) rfl) rfl rfl ?_
      refine .dld rfl (.n rfl) (V.ld (v := Ag (api_Wide.cs x9)) .t0 .k2 (by rcases i7 with _ | _ | _ | _ | _ | _ | _ | _ | _ <;> first | (obtain rfl := Option.some.inj hx6; rcases i11 with _ | _ | _ <;> first | (obtain rfl := Option.some.inj hx10; exact LdV.agg isAgg30 sizeOf30 rfl rfl) | (cases hx10; done)) | (cases hx6; done))) (fun _ h => h) rfl rfl ?_
      refine .dld rfl (.n rfl) (V.ld (v := Ag (api_Wide.cs a3)) .t2 .k1 (.agg isAgg30 sizeOf30 rfl rfl)) (fun _ h => h) rfl rfl ?_
      refine .dfk ?_ ?_
      · refine .dgo rfl (.n rfl) (G.call call39 (.cons .t1 (.cons .t0 .nil)) (S_wide_Sub x9 a3 _ rfl) .nil .nil (fun _ _ => rfl) (fun _ _ => rfl) rfl) (.inr fun _ _ _ h => h) fun _ _ => ?_
        refine .dpu rfl (.n rfl) (P.mov .t0) rfl rfl ?_
        refine .dpu rfl (.n rfl) (P.ext (v := Ag (api_Wide.cs (wide_Sub x9 a3).1)) .g0 rfl) rfl rfl ?_
        refine .dpu rfl (.n rfl) (P.ext (v := Bo (wide_Sub x9 a3).2) .t1 rfl) rfl rfl ?_
        refine .dgo rfl (.n rfl) (OpX.g (X.alc (cs := (api_Wide.cs ⟨0, 0, 0, 0⟩)) zeroValue30 rfl) rfl) (.inr fun _ _ _ h => (h.imp (Ls.of (.cons .k1 (.cons .k1 (.cons .k1 .nil))))).ro Rs.nil) fun b13 _ => ?_
        refine .dgo rfl (.n rfl) (G.str .t2 .g0 .k0 (.mk (cs' := (api_Wide.cs (wide_Sub x9 a3).1)) sizeOf30 rfl rfl rfl rfl)) (.inr fun _ _ _ h => (h.imp (Ls.of (.cons .k1 (.cons .k1 (.cons .k1 .nil))))).ro Rs.nil) fun _ _ => ?_
        refine .dgo rfl (.n rfl) (OpV.g (OpP.toV (P.asg .t1)) rfl) (.inr fun _ _ _ h => (h.imp (Ls.of (.cons .k1 (.cons .k1 (.cons .k1 .nil))))).ro Rs.nil) fun _ _ => ?_
        refine .dnil ?_
        exact .dst b13 trivial (.cons Mm.m0 (.cons Mm.m1 (.cons Mm.m2 (.cons Mm.m3 (.cons Mm.m4 (.cons Mm.m5 .nil)))))) (Ls.of (.cons .k0 (.cons .k0 (.cons .k0 (.cons .k0 .nil))))) .nil
      · refine .dgo rfl (.n rfl) (OpX.g (X.alc (cs := (api_Wide.cs ⟨0, 0, 0, 0⟩)) zeroValue30 rfl) rfl) (.inr fun _ _ _ h => (h.imp (Ls.of (.cons .k1 (.cons .k1 (.cons .k1 .nil))))).ro Rs.nil) fun b13 _ => ?_
        refine .dgo rfl (.n rfl) (G.call call39 (.cons .t2 (.cons .t1 .nil)) (S_wide_Sub x9 a3 _ rfl) .nil .nil (fun _ _ => rfl) (fun _ _ => rfl) rfl) (.inr fun _ _ _ h => (h.imp (Ls.of (.cons .k1 (.cons .k1 (.cons .k1 .nil))))).ro Rs.nil) fun _ _ => ?_
        refine .dpu rfl (.n rfl) (P.mov .t0) rfl rfl ?_
        refine .dpu rfl (.n rfl) (P.ext (v := Ag (api_Wide.cs (wide_Sub x9 a3).1)) .g0 rfl) rfl rfl ?_
        refine .dpu rfl (.n rfl) (P.ext (v := Bo (wide_Sub x9 a3).2) .t1 rfl) rfl rfl ?_
        refine .dgo rfl (.n rfl) (G.str .t1 .g1 .k0 (.mk (cs' := (api_Wide.cs (wide_Sub x9 a3).1)) sizeOf30 rfl rfl rfl rfl)) (.inr fun _ _ _ h => (h.imp (Ls.of (.cons .k1 (.cons .k1 (.cons .k1 .nil))))).ro Rs.nil) fun _ _ => ?_
        refine .dgo rfl (.n rfl) (OpV.g (OpP.toV (P.asg .t0)) rfl) (.inr fun _ _ _ h => (h.imp (Ls.of (.cons .k1 (.cons .k1 (.cons .k1 .nil))))).ro Rs.nil) fun _ _ => ?_
        refine .dnil ?_
        exact .dst b13 trivial (.cons Mm.m0 (.cons Mm.m1 (.cons Mm.m2 (.cons Mm.m3 (.cons Mm.m4 (.cons Mm.m5 .nil)))))) (Ls.of (.cons .k0 (.cons .k0 (.cons .k0 (.cons .k0 .nil))))) .nil
    · refine .then ?_
      refine .seq ?_
      refine .seq ?_
      refine .reg rfl ?_
      refine .opp (P.mov .t0) rfl ?_
      refine .opp (P.not .t0) rfl ?_
      refine .nil ?_
      refine .then ?_
      refine .cond .t0 (fun c14 => ?_) (fun c14 => ?_)
      · rw [if_pos c14] at h
        refine .seq ?_
        refine .reg rfl ?_
        refine .op (V.ld (v := Ag (purse_Book.cs a0)) .t2 .k3 (.agg isAgg41 sizeOf41 rfl rfl)) rfl ?_
        refine .opg (G.str .t0 .g1 .k1 (.mk (cs' := (purse_Book.cs a0)) sizeOf41 rfl rfl rfl rfl)) rfl fun _ _ => ?_
        refine .opp (P.asg .k) rfl ?_
        refine .nil ?_
        refine .then ?_
        refine .ret ?_
        refine .thr ?_
        cases h
        exact .finw () (.r2 rfl (.cell .g2 .k0 (.agg isAgg41 sizeOf41 rfl rfl)) (.tmp .g0)) trivial (Ls.of .nil) .nil
      · rw [if_neg (ne_true_of_eq_false c14)] at h
        refine .skip ?_
        refine .then ?_
        refine .seq ?_
        refine .drawl [blk b13 30 (api_Wide.cs (wide_Sub x9 a3).1), blk b3 41 (purse_Book.cs ⟨⟨⟨0, 0, 0, 0⟩, ⟨0, 0, 0, 0⟩⟩, ⟨⟨0, 0, 0, 0⟩, ⟨0, 0, 0, 0⟩⟩, ⟨⟨0, 0, 0, 0⟩, ⟨0, 0, 0, 0⟩⟩, ⟨⟨0, 0, 0, 0⟩, ⟨0, 0, 0, 0⟩⟩, ⟨⟨0, 0, 0, 0⟩, ⟨0, 0, 0, 0⟩⟩, ⟨⟨0, 0, 0, 0⟩, ⟨0, 0, 0, 0⟩⟩, ⟨⟨0, 0, 0, 0⟩, ⟨0, 0, 0, 0⟩⟩, ⟨⟨0, 0, 0, 0⟩, ⟨0, 0, 0, 0⟩⟩⟩), blk b2 30 (api_Wide.cs a3)] [] (Ls.of (.cons .k0 (.cons .k0 (.cons .k0 .nil)))) Rs.nil 6 (.on 0 .pu (.on 1 .pu (.on 3 .pu (.on 2 .ld (.on 4 .pu (.on 5 .go .nl)))))) follows_mixed (.thn .body) (by kernel_rfl) ?_
        refine .dpu rfl (.n rfl) (P.mov .t3) rfl rfl ?_
        refine .dpu rfl (.n rfl) (P.mov .t4) rfl rfl ?_
        obtain ⟨x15, hx16, h⟩ := bnd_eq h
        obtain ⟨i17, hi18, hx16⟩ := at_eq hx16
        have hi18_ : (a1).toNat = i17 := by rw [hi18]; rfl
        refine .dpu rfl (.n rfl) (P.iad (i := i17) (off' := (0 + i17 * 8)) .t1 hi18 .g3 runUnderlying41 sizeOf39 (lt_of_get hx16) rfl) rfl rfl ?_
        refine .dld rfl (.n rfl) (V.ld (v := Ag (api_Wide.cs (wide_Sub x9 a3).1)) .t2 .k0 (.agg isAgg30 sizeOf30 rfl rfl)) (fun _ h => (h.imp (Ls.of (.cons .k0 (.cons .k0 (.cons .k0 .nil))))).ro Rs.nil) rfl rfl ?_
        obtain ⟨x19, hx20, h⟩ := bnd_eq h
        obtain ⟨i21, hi22, hx20⟩ := at_eq hx20
        have hi22_ : (a2).toNat = i21 := by rw [hi22]; rfl
        refine .dpu rfl (.n rfl) (P.iad (i := i21) (off' := ((0 + i17 * 8) + i21 * 4)) .t2 hi22 .t1 runUnderlying39 sizeOf30 (lt_of_get hx20) rfl) rfl rfl ?_
        refine .dgo rfl (.n rfl) (G.str (cs' := (purse_Book.cs (purse_Book.set a0 i17 (A2_api_Wide.set x15 i21 (wide_Sub x9 a3).1)))) .t1 .t0 .k3 (by rcases i17 with _ | _ | _ | _ | _ | _ | _ | _ | _ <;> first | (obtain rfl := Option.some.inj hx16; rcases i21 with _ | _ | _ <;> first | (obtain rfl := Option.some.inj hx20; exact StV.mk sizeOf30 rfl rfl rfl rfl) | (cases hx20; done)) | (cases hx16; done))) (.inr fun _ _ _ h => (h.imp (Ls.of (.cons .k1 (.cons .k1 (.cons .k1 .nil))))).ro Rs.nil) fun _ _ => ?_
        refine .conseq .k0 (q := blk b1 41 (purse_Book.cs (purse_Book.set a0 (a1).toNat (A2_api_Wide.set x15 (a2).toNat (wide_Sub x9 a3).1)))) (fun _ h_ => by rw [hi18_, hi22_]; exact h_) ?_
        refine .dnil ?_
        refine .then ?_
        refine .seq ?_
        refine .reg rfl ?_
        refine .op (V.ld (v := Ag (purse_Book.cs (purse_Book.set a0 (a1).toNat (A2_api_Wide.set x15 (a2).toNat (wide_Sub x9 a3).1)))) .t1 .k0 (.agg isAgg41 sizeOf41 rfl rfl)) rfl ?_
        refine .opg (G.str .t0 .g0 .k2 (.mk (cs' := (purse_Book.cs (purse_Book.set a0 (a1).toNat (A2_api_Wide.set x15 (a2).toNat (wide_Sub x9 a3).1)))) sizeOf41 rfl rfl rfl rfl)) rfl fun _ _ => ?_
        refine .opp (P.asg .k) rfl ?_
        refine .nil ?_
        refine .then ?_
        refine .ret ?_
        cases h
        exact .finw () (.r2 rfl (.cell .g1 .k0 (.agg isAgg41 sizeOf41 rfl rfl)) (.tmp .g0)) trivial (Ls.of .nil) .nil
attribute [irreducible] purse_Book_Take
end Go.Sl
