/- Walked code of the program, its pure functions and their contracts. -/
import Derived.Test.YtjlalcoommhfoaaGreatProg
import Derived.Test.YtjlalcoommhfoaaGreatSlJn
set_option linter.unusedVariables false
set_option linter.unusedSimpArgs false
namespace Go.Sl
open Go.Proofs Go.Proofs.Tryz
theorem follows_mixed : Tryz.prog.follows .mixedOrders = true := by kernel_rfl
abbrev mustCh (e : Int) : List PanicEntry := [{ v := .iface 316 (Ag [N e]), recovered := false }]
structure A2_i64 where
  a0 : Int
  a1 : Int
  deriving DecidableEq
def A2_i64.cs (x : A2_i64) : List Value := [N x.a0, N x.a1]
def A2_i64.list (x : A2_i64) : List Int := [x.a0, x.a1]
def A2_i64.set (x : A2_i64) (k : Nat) (v : Int) : A2_i64 := ⟨if k = 0 then v else x.a0, if k = 1 then v else x.a1⟩
def A2_i64.z : A2_i64 := ⟨0, 0⟩
structure driver_Report where
  Now : Int
  Events : A2_i64
  Mail : Int
  Prepared : Int
  Done : Int
  Well : Bool
  Solvent : Bool
  deriving DecidableEq
def driver_Report.cs (x : driver_Report) : List Value := [N x.Now, N x.Events.a0, N x.Events.a1, N x.Mail, N x.Prepared, N x.Done, Bo x.Well, Bo x.Solvent]
def driver_Report.z : driver_Report := ⟨0, A2_i64.z, 0, 0, 0, false, false⟩
structure api_Wide where
  a0 : UInt64
  a1 : UInt64
  a2 : UInt64
  a3 : UInt64
  deriving DecidableEq
def api_Wide.cs (x : api_Wide) : List Value := [U x.a0, U x.a1, U x.a2, U x.a3]
def api_Wide.list (x : api_Wide) : List UInt64 := [x.a0, x.a1, x.a2, x.a3]
def api_Wide.set (x : api_Wide) (k : Nat) (v : UInt64) : api_Wide := ⟨if k = 0 then v else x.a0, if k = 1 then v else x.a1, if k = 2 then v else x.a2, if k = 3 then v else x.a3⟩
def api_Wide.z : api_Wide := ⟨0, 0, 0, 0⟩
structure A6_i64 where
  a0 : Int
  a1 : Int
  a2 : Int
  a3 : Int
  a4 : Int
  a5 : Int
  deriving DecidableEq
def A6_i64.cs (x : A6_i64) : List Value := [N x.a0, N x.a1, N x.a2, N x.a3, N x.a4, N x.a5]
def A6_i64.list (x : A6_i64) : List Int := [x.a0, x.a1, x.a2, x.a3, x.a4, x.a5]
def A6_i64.set (x : A6_i64) (k : Nat) (v : Int) : A6_i64 := ⟨if k = 0 then v else x.a0, if k = 1 then v else x.a1, if k = 2 then v else x.a2, if k = 3 then v else x.a3, if k = 4 then v else x.a4, if k = 5 then v else x.a5⟩
def A6_i64.z : A6_i64 := ⟨0, 0, 0, 0, 0, 0⟩
structure world_Setup where
  Delay : Int
  Skew : Int
  Corrupt : Int
  Room : Int
  deriving DecidableEq
def world_Setup.cs (x : world_Setup) : List Value := [N x.Delay, N x.Skew, N x.Corrupt, N x.Room]
def world_Setup.z : world_Setup := ⟨0, 0, 0, 0⟩
structure api_Step where
  Kind : Int
  A : Int
  B : Int
  C : Int
  Data : List UInt8
  deriving DecidableEq
def api_Step.cs (x : api_Step) (z0 : Value) : List Value := [N x.Kind, N x.A, N x.B, N x.C, z0]
def api_Step.g (x : api_Step) (z : Value) : Asn := rows 1 z (x.Data.map (fun x => [B8 x]))
def api_Step.z : api_Step := ⟨0, 0, 0, 0, []⟩
structure A3_i64 where
  a0 : Int
  a1 : Int
  a2 : Int
  deriving DecidableEq
def A3_i64.cs (x : A3_i64) : List Value := [N x.a0, N x.a1, N x.a2]
def A3_i64.list (x : A3_i64) : List Int := [x.a0, x.a1, x.a2]
def A3_i64.set (x : A3_i64) (k : Nat) (v : Int) : A3_i64 := ⟨if k = 0 then v else x.a0, if k = 1 then v else x.a1, if k = 2 then v else x.a2⟩
def A3_i64.z : A3_i64 := ⟨0, 0, 0⟩
structure A2_api_Wide where
  a0 : api_Wide
  a1 : api_Wide
  deriving DecidableEq
def A2_api_Wide.cs (x : A2_api_Wide) : List Value := [U x.a0.a0, U x.a0.a1, U x.a0.a2, U x.a0.a3, U x.a1.a0, U x.a1.a1, U x.a1.a2, U x.a1.a3]
def A2_api_Wide.list (x : A2_api_Wide) : List api_Wide := [x.a0, x.a1]
def A2_api_Wide.set (x : A2_api_Wide) (k : Nat) (v : api_Wide) : A2_api_Wide := ⟨if k = 0 then v else x.a0, if k = 1 then v else x.a1⟩
def A2_api_Wide.z : A2_api_Wide := ⟨api_Wide.z, api_Wide.z⟩
structure purse_Book where
  a0 : A2_api_Wide
  a1 : A2_api_Wide
  a2 : A2_api_Wide
  a3 : A2_api_Wide
  a4 : A2_api_Wide
  a5 : A2_api_Wide
  a6 : A2_api_Wide
  a7 : A2_api_Wide
  deriving DecidableEq
def purse_Book.cs (x : purse_Book) : List Value := [U x.a0.a0.a0, U x.a0.a0.a1, U x.a0.a0.a2, U x.a0.a0.a3, U x.a0.a1.a0, U x.a0.a1.a1, U x.a0.a1.a2, U x.a0.a1.a3, U x.a1.a0.a0, U x.a1.a0.a1, U x.a1.a0.a2, U x.a1.a0.a3, U x.a1.a1.a0, U x.a1.a1.a1, U x.a1.a1.a2, U x.a1.a1.a3, U x.a2.a0.a0, U x.a2.a0.a1, U x.a2.a0.a2, U x.a2.a0.a3, U x.a2.a1.a0, U x.a2.a1.a1, U x.a2.a1.a2, U x.a2.a1.a3, U x.a3.a0.a0, U x.a3.a0.a1, U x.a3.a0.a2, U x.a3.a0.a3, U x.a3.a1.a0, U x.a3.a1.a1, U x.a3.a1.a2, U x.a3.a1.a3, U x.a4.a0.a0, U x.a4.a0.a1, U x.a4.a0.a2, U x.a4.a0.a3, U x.a4.a1.a0, U x.a4.a1.a1, U x.a4.a1.a2, U x.a4.a1.a3, U x.a5.a0.a0, U x.a5.a0.a1, U x.a5.a0.a2, U x.a5.a0.a3, U x.a5.a1.a0, U x.a5.a1.a1, U x.a5.a1.a2, U x.a5.a1.a3, U x.a6.a0.a0, U x.a6.a0.a1, U x.a6.a0.a2, U x.a6.a0.a3, U x.a6.a1.a0, U x.a6.a1.a1, U x.a6.a1.a2, U x.a6.a1.a3, U x.a7.a0.a0, U x.a7.a0.a1, U x.a7.a0.a2, U x.a7.a0.a3, U x.a7.a1.a0, U x.a7.a1.a1, U x.a7.a1.a2, U x.a7.a1.a3]
def purse_Book.list (x : purse_Book) : List A2_api_Wide := [x.a0, x.a1, x.a2, x.a3, x.a4, x.a5, x.a6, x.a7]
def purse_Book.set (x : purse_Book) (k : Nat) (v : A2_api_Wide) : purse_Book := ⟨if k = 0 then v else x.a0, if k = 1 then v else x.a1, if k = 2 then v else x.a2, if k = 3 then v else x.a3, if k = 4 then v else x.a4, if k = 5 then v else x.a5, if k = 6 then v else x.a6, if k = 7 then v else x.a7⟩
def purse_Book.z : purse_Book := ⟨A2_api_Wide.z, A2_api_Wide.z, A2_api_Wide.z, A2_api_Wide.z, A2_api_Wide.z, A2_api_Wide.z, A2_api_Wide.z, A2_api_Wide.z⟩
structure A8_i64 where
  a0 : Int
  a1 : Int
  a2 : Int
  a3 : Int
  a4 : Int
  a5 : Int
  a6 : Int
  a7 : Int
  deriving DecidableEq
def A8_i64.cs (x : A8_i64) : List Value := [N x.a0, N x.a1, N x.a2, N x.a3, N x.a4, N x.a5, N x.a6, N x.a7]
def A8_i64.list (x : A8_i64) : List Int := [x.a0, x.a1, x.a2, x.a3, x.a4, x.a5, x.a6, x.a7]
def A8_i64.set (x : A8_i64) (k : Nat) (v : Int) : A8_i64 := ⟨if k = 0 then v else x.a0, if k = 1 then v else x.a1, if k = 2 then v else x.a2, if k = 3 then v else x.a3, if k = 4 then v else x.a4, if k = 5 then v else x.a5, if k = 6 then v else x.a6, if k = 7 then v else x.a7⟩
def A8_i64.z : A8_i64 := ⟨0, 0, 0, 0, 0, 0, 0, 0⟩
structure escrow_Lock where
  Key : ByteArray
  Digest : ByteArray
  Status : Int
  deriving DecidableEq
def escrow_Lock.cs (x : escrow_Lock) : List Value := [.string x.Key, .string x.Digest, N x.Status]
def escrow_Lock.z : escrow_Lock := ⟨⟨#[]⟩, ⟨#[]⟩, 0⟩
structure escrow_State where
  Side : Int
  Time : Int
  Purse : purse_Book
  Vault : purse_Book
  Nonces : A8_i64
  Held : A2_api_Wide
  Burnt : api_Wide
  Locks : List escrow_Lock
  deriving DecidableEq
def escrow_State.cs (x : escrow_State) (z0 : Value) : List Value := [N x.Side, N x.Time, U x.Purse.a0.a0.a0, U x.Purse.a0.a0.a1, U x.Purse.a0.a0.a2, U x.Purse.a0.a0.a3, U x.Purse.a0.a1.a0, U x.Purse.a0.a1.a1, U x.Purse.a0.a1.a2, U x.Purse.a0.a1.a3, U x.Purse.a1.a0.a0, U x.Purse.a1.a0.a1, U x.Purse.a1.a0.a2, U x.Purse.a1.a0.a3, U x.Purse.a1.a1.a0, U x.Purse.a1.a1.a1, U x.Purse.a1.a1.a2, U x.Purse.a1.a1.a3, U x.Purse.a2.a0.a0, U x.Purse.a2.a0.a1, U x.Purse.a2.a0.a2, U x.Purse.a2.a0.a3, U x.Purse.a2.a1.a0, U x.Purse.a2.a1.a1, U x.Purse.a2.a1.a2, U x.Purse.a2.a1.a3, U x.Purse.a3.a0.a0, U x.Purse.a3.a0.a1, U x.Purse.a3.a0.a2, U x.Purse.a3.a0.a3, U x.Purse.a3.a1.a0, U x.Purse.a3.a1.a1, U x.Purse.a3.a1.a2, U x.Purse.a3.a1.a3, U x.Purse.a4.a0.a0, U x.Purse.a4.a0.a1, U x.Purse.a4.a0.a2, U x.Purse.a4.a0.a3, U x.Purse.a4.a1.a0, U x.Purse.a4.a1.a1, U x.Purse.a4.a1.a2, U x.Purse.a4.a1.a3, U x.Purse.a5.a0.a0, U x.Purse.a5.a0.a1, U x.Purse.a5.a0.a2, U x.Purse.a5.a0.a3, U x.Purse.a5.a1.a0, U x.Purse.a5.a1.a1, U x.Purse.a5.a1.a2, U x.Purse.a5.a1.a3, U x.Purse.a6.a0.a0, U x.Purse.a6.a0.a1, U x.Purse.a6.a0.a2, U x.Purse.a6.a0.a3, U x.Purse.a6.a1.a0, U x.Purse.a6.a1.a1, U x.Purse.a6.a1.a2, U x.Purse.a6.a1.a3, U x.Purse.a7.a0.a0, U x.Purse.a7.a0.a1, U x.Purse.a7.a0.a2, U x.Purse.a7.a0.a3, U x.Purse.a7.a1.a0, U x.Purse.a7.a1.a1, U x.Purse.a7.a1.a2, U x.Purse.a7.a1.a3, U x.Vault.a0.a0.a0, U x.Vault.a0.a0.a1, U x.Vault.a0.a0.a2, U x.Vault.a0.a0.a3, U x.Vault.a0.a1.a0, U x.Vault.a0.a1.a1, U x.Vault.a0.a1.a2, U x.Vault.a0.a1.a3, U x.Vault.a1.a0.a0, U x.Vault.a1.a0.a1, U x.Vault.a1.a0.a2, U x.Vault.a1.a0.a3, U x.Vault.a1.a1.a0, U x.Vault.a1.a1.a1, U x.Vault.a1.a1.a2, U x.Vault.a1.a1.a3, U x.Vault.a2.a0.a0, U x.Vault.a2.a0.a1, U x.Vault.a2.a0.a2, U x.Vault.a2.a0.a3, U x.Vault.a2.a1.a0, U x.Vault.a2.a1.a1, U x.Vault.a2.a1.a2, U x.Vault.a2.a1.a3, U x.Vault.a3.a0.a0, U x.Vault.a3.a0.a1, U x.Vault.a3.a0.a2, U x.Vault.a3.a0.a3, U x.Vault.a3.a1.a0, U x.Vault.a3.a1.a1, U x.Vault.a3.a1.a2, U x.Vault.a3.a1.a3, U x.Vault.a4.a0.a0, U x.Vault.a4.a0.a1, U x.Vault.a4.a0.a2, U x.Vault.a4.a0.a3, U x.Vault.a4.a1.a0, U x.Vault.a4.a1.a1, U x.Vault.a4.a1.a2, U x.Vault.a4.a1.a3, U x.Vault.a5.a0.a0, U x.Vault.a5.a0.a1, U x.Vault.a5.a0.a2, U x.Vault.a5.a0.a3, U x.Vault.a5.a1.a0, U x.Vault.a5.a1.a1, U x.Vault.a5.a1.a2, U x.Vault.a5.a1.a3, U x.Vault.a6.a0.a0, U x.Vault.a6.a0.a1, U x.Vault.a6.a0.a2, U x.Vault.a6.a0.a3, U x.Vault.a6.a1.a0, U x.Vault.a6.a1.a1, U x.Vault.a6.a1.a2, U x.Vault.a6.a1.a3, U x.Vault.a7.a0.a0, U x.Vault.a7.a0.a1, U x.Vault.a7.a0.a2, U x.Vault.a7.a0.a3, U x.Vault.a7.a1.a0, U x.Vault.a7.a1.a1, U x.Vault.a7.a1.a2, U x.Vault.a7.a1.a3, N x.Nonces.a0, N x.Nonces.a1, N x.Nonces.a2, N x.Nonces.a3, N x.Nonces.a4, N x.Nonces.a5, N x.Nonces.a6, N x.Nonces.a7, U x.Held.a0.a0, U x.Held.a0.a1, U x.Held.a0.a2, U x.Held.a0.a3, U x.Held.a1.a0, U x.Held.a1.a1, U x.Held.a1.a2, U x.Held.a1.a3, U x.Burnt.a0, U x.Burnt.a1, U x.Burnt.a2, U x.Burnt.a3, z0]
def escrow_State.g (x : escrow_State) (z : Value) : Asn := rows 3 z (x.Locks.map escrow_Lock.cs)
def escrow_State.z : escrow_State := ⟨0, 0, purse_Book.z, purse_Book.z, A8_i64.z, A2_api_Wide.z, api_Wide.z, []⟩
structure api_Inv where
  User : Int
  Root : ByteArray
  Router : Int
  Send : Int
  Recv : Int
  To : Int
  Id : ByteArray
  deriving DecidableEq
def api_Inv.cs (x : api_Inv) : List Value := [N x.User, .string x.Root, N x.Router, N x.Send, N x.Recv, N x.To, .string x.Id]
def api_Inv.z : api_Inv := ⟨0, ⟨#[]⟩, 0, 0, 0, 0, ⟨#[]⟩⟩
structure api_Var where
  Amount : api_Wide
  Expiry : Int
  deriving DecidableEq
def api_Var.cs (x : api_Var) : List Value := [U x.Amount.a0, U x.Amount.a1, U x.Amount.a2, U x.Amount.a3, N x.Expiry]
def api_Var.z : api_Var := ⟨api_Wide.z, 0⟩
structure api_Tx where
  From : Int
  Nonce : Int
  Kind : Int
  Asset : Int
  Amount : api_Wide
  Inv : api_Inv
  Var : api_Var
  Fee : api_Wide
  Sig : ByteArray
  deriving DecidableEq
def api_Tx.cs (x : api_Tx) : List Value := [N x.From, N x.Nonce, N x.Kind, N x.Asset, U x.Amount.a0, U x.Amount.a1, U x.Amount.a2, U x.Amount.a3, N x.Inv.User, .string x.Inv.Root, N x.Inv.Router, N x.Inv.Send, N x.Inv.Recv, N x.Inv.To, .string x.Inv.Id, U x.Var.Amount.a0, U x.Var.Amount.a1, U x.Var.Amount.a2, U x.Var.Amount.a3, N x.Var.Expiry, U x.Fee.a0, U x.Fee.a1, U x.Fee.a2, U x.Fee.a3, .string x.Sig]
def api_Tx.z : api_Tx := ⟨0, 0, 0, 0, api_Wide.z, api_Inv.z, api_Var.z, api_Wide.z, ⟨#[]⟩⟩
structure api_Event where
  Time : Int
  Code : Int
  Tx : api_Tx
  deriving DecidableEq
def api_Event.cs (x : api_Event) : List Value := [N x.Time, N x.Code, N x.Tx.From, N x.Tx.Nonce, N x.Tx.Kind, N x.Tx.Asset, U x.Tx.Amount.a0, U x.Tx.Amount.a1, U x.Tx.Amount.a2, U x.Tx.Amount.a3, N x.Tx.Inv.User, .string x.Tx.Inv.Root, N x.Tx.Inv.Router, N x.Tx.Inv.Send, N x.Tx.Inv.Recv, N x.Tx.Inv.To, .string x.Tx.Inv.Id, U x.Tx.Var.Amount.a0, U x.Tx.Var.Amount.a1, U x.Tx.Var.Amount.a2, U x.Tx.Var.Amount.a3, N x.Tx.Var.Expiry, U x.Tx.Fee.a0, U x.Tx.Fee.a1, U x.Tx.Fee.a2, U x.Tx.Fee.a3, .string x.Tx.Sig]
def api_Event.z : api_Event := ⟨0, 0, api_Tx.z⟩
structure chain_Chain where
  s : escrow_State
  pool : List api_Tx
  events : List api_Event
  made : Bool
  deriving DecidableEq
def chain_Chain.cs (x : chain_Chain) (z0 z1 z2 : Value) : List Value := [N x.s.Side, N x.s.Time, U x.s.Purse.a0.a0.a0, U x.s.Purse.a0.a0.a1, U x.s.Purse.a0.a0.a2, U x.s.Purse.a0.a0.a3, U x.s.Purse.a0.a1.a0, U x.s.Purse.a0.a1.a1, U x.s.Purse.a0.a1.a2, U x.s.Purse.a0.a1.a3, U x.s.Purse.a1.a0.a0, U x.s.Purse.a1.a0.a1, U x.s.Purse.a1.a0.a2, U x.s.Purse.a1.a0.a3, U x.s.Purse.a1.a1.a0, U x.s.Purse.a1.a1.a1, U x.s.Purse.a1.a1.a2, U x.s.Purse.a1.a1.a3, U x.s.Purse.a2.a0.a0, U x.s.Purse.a2.a0.a1, U x.s.Purse.a2.a0.a2, U x.s.Purse.a2.a0.a3, U x.s.Purse.a2.a1.a0, U x.s.Purse.a2.a1.a1, U x.s.Purse.a2.a1.a2, U x.s.Purse.a2.a1.a3, U x.s.Purse.a3.a0.a0, U x.s.Purse.a3.a0.a1, U x.s.Purse.a3.a0.a2, U x.s.Purse.a3.a0.a3, U x.s.Purse.a3.a1.a0, U x.s.Purse.a3.a1.a1, U x.s.Purse.a3.a1.a2, U x.s.Purse.a3.a1.a3, U x.s.Purse.a4.a0.a0, U x.s.Purse.a4.a0.a1, U x.s.Purse.a4.a0.a2, U x.s.Purse.a4.a0.a3, U x.s.Purse.a4.a1.a0, U x.s.Purse.a4.a1.a1, U x.s.Purse.a4.a1.a2, U x.s.Purse.a4.a1.a3, U x.s.Purse.a5.a0.a0, U x.s.Purse.a5.a0.a1, U x.s.Purse.a5.a0.a2, U x.s.Purse.a5.a0.a3, U x.s.Purse.a5.a1.a0, U x.s.Purse.a5.a1.a1, U x.s.Purse.a5.a1.a2, U x.s.Purse.a5.a1.a3, U x.s.Purse.a6.a0.a0, U x.s.Purse.a6.a0.a1, U x.s.Purse.a6.a0.a2, U x.s.Purse.a6.a0.a3, U x.s.Purse.a6.a1.a0, U x.s.Purse.a6.a1.a1, U x.s.Purse.a6.a1.a2, U x.s.Purse.a6.a1.a3, U x.s.Purse.a7.a0.a0, U x.s.Purse.a7.a0.a1, U x.s.Purse.a7.a0.a2, U x.s.Purse.a7.a0.a3, U x.s.Purse.a7.a1.a0, U x.s.Purse.a7.a1.a1, U x.s.Purse.a7.a1.a2, U x.s.Purse.a7.a1.a3, U x.s.Vault.a0.a0.a0, U x.s.Vault.a0.a0.a1, U x.s.Vault.a0.a0.a2, U x.s.Vault.a0.a0.a3, U x.s.Vault.a0.a1.a0, U x.s.Vault.a0.a1.a1, U x.s.Vault.a0.a1.a2, U x.s.Vault.a0.a1.a3, U x.s.Vault.a1.a0.a0, U x.s.Vault.a1.a0.a1, U x.s.Vault.a1.a0.a2, U x.s.Vault.a1.a0.a3, U x.s.Vault.a1.a1.a0, U x.s.Vault.a1.a1.a1, U x.s.Vault.a1.a1.a2, U x.s.Vault.a1.a1.a3, U x.s.Vault.a2.a0.a0, U x.s.Vault.a2.a0.a1, U x.s.Vault.a2.a0.a2, U x.s.Vault.a2.a0.a3, U x.s.Vault.a2.a1.a0, U x.s.Vault.a2.a1.a1, U x.s.Vault.a2.a1.a2, U x.s.Vault.a2.a1.a3, U x.s.Vault.a3.a0.a0, U x.s.Vault.a3.a0.a1, U x.s.Vault.a3.a0.a2, U x.s.Vault.a3.a0.a3, U x.s.Vault.a3.a1.a0, U x.s.Vault.a3.a1.a1, U x.s.Vault.a3.a1.a2, U x.s.Vault.a3.a1.a3, U x.s.Vault.a4.a0.a0, U x.s.Vault.a4.a0.a1, U x.s.Vault.a4.a0.a2, U x.s.Vault.a4.a0.a3, U x.s.Vault.a4.a1.a0, U x.s.Vault.a4.a1.a1, U x.s.Vault.a4.a1.a2, U x.s.Vault.a4.a1.a3, U x.s.Vault.a5.a0.a0, U x.s.Vault.a5.a0.a1, U x.s.Vault.a5.a0.a2, U x.s.Vault.a5.a0.a3, U x.s.Vault.a5.a1.a0, U x.s.Vault.a5.a1.a1, U x.s.Vault.a5.a1.a2, U x.s.Vault.a5.a1.a3, U x.s.Vault.a6.a0.a0, U x.s.Vault.a6.a0.a1, U x.s.Vault.a6.a0.a2, U x.s.Vault.a6.a0.a3, U x.s.Vault.a6.a1.a0, U x.s.Vault.a6.a1.a1, U x.s.Vault.a6.a1.a2, U x.s.Vault.a6.a1.a3, U x.s.Vault.a7.a0.a0, U x.s.Vault.a7.a0.a1, U x.s.Vault.a7.a0.a2, U x.s.Vault.a7.a0.a3, U x.s.Vault.a7.a1.a0, U x.s.Vault.a7.a1.a1, U x.s.Vault.a7.a1.a2, U x.s.Vault.a7.a1.a3, N x.s.Nonces.a0, N x.s.Nonces.a1, N x.s.Nonces.a2, N x.s.Nonces.a3, N x.s.Nonces.a4, N x.s.Nonces.a5, N x.s.Nonces.a6, N x.s.Nonces.a7, U x.s.Held.a0.a0, U x.s.Held.a0.a1, U x.s.Held.a0.a2, U x.s.Held.a0.a3, U x.s.Held.a1.a0, U x.s.Held.a1.a1, U x.s.Held.a1.a2, U x.s.Held.a1.a3, U x.s.Burnt.a0, U x.s.Burnt.a1, U x.s.Burnt.a2, U x.s.Burnt.a3, z0, z1, z2, Bo x.made]
def chain_Chain.z : chain_Chain := ⟨escrow_State.z, [], [], false⟩
structure A2_chain_Chain where
  a0 : Option chain_Chain
  a1 : Option chain_Chain
def A2_chain_Chain.cs (x : A2_chain_Chain) (z0 z1 : Value) : List Value := [z0, z1]
def A2_chain_Chain.list (x : A2_chain_Chain) : List (Option chain_Chain) := [x.a0, x.a1]
def A2_chain_Chain.set (x : A2_chain_Chain) (k : Nat) (v : (Option chain_Chain)) : A2_chain_Chain := ⟨if k = 0 then v else x.a0, if k = 1 then v else x.a1⟩
def A2_chain_Chain.z : A2_chain_Chain := ⟨none, none⟩
structure auction_Room where
  roots : List ByteArray
  open_ : Unit
  made : Bool
def auction_Room.cs (x : auction_Room) (z0 : Value) : List Value := [z0, nilSl, Bo x.made]
def auction_Room.g (x : auction_Room) (z : Value) : Asn := rows 1 z (x.roots.map (fun x => [.string x]))
def auction_Room.z : auction_Room := ⟨[], (), false⟩
structure disk_Disk where
  b : List UInt8
  sure : Int
  room : Int
  made : Bool
  deriving DecidableEq
def disk_Disk.cs (x : disk_Disk) (z0 : Value) : List Value := [z0, N x.sure, N x.room, Bo x.made]
def disk_Disk.g (x : disk_Disk) (z : Value) : Asn := rows 1 z (x.b.map (fun x => [B8 x]))
def disk_Disk.z : disk_Disk := ⟨[], 0, 0, false⟩
structure api_Ask where
  User : Int
  Send : Int
  Recv : Int
  To : Int
  Amount : api_Wide
  Id : ByteArray
  deriving DecidableEq
def api_Ask.cs (x : api_Ask) : List Value := [N x.User, N x.Send, N x.Recv, N x.To, U x.Amount.a0, U x.Amount.a1, U x.Amount.a2, U x.Amount.a3, .string x.Id]
def api_Ask.z : api_Ask := ⟨0, 0, 0, 0, api_Wide.z, ⟨#[]⟩⟩
structure api_Bid where
  Router : Int
  Ask : api_Ask
  Amount : api_Wide
  Until : Int
  Sig : ByteArray
  deriving DecidableEq
def api_Bid.cs (x : api_Bid) : List Value := [N x.Router, N x.Ask.User, N x.Ask.Send, N x.Ask.Recv, N x.Ask.To, U x.Ask.Amount.a0, U x.Ask.Amount.a1, U x.Ask.Amount.a2, U x.Ask.Amount.a3, .string x.Ask.Id, U x.Amount.a0, U x.Amount.a1, U x.Amount.a2, U x.Amount.a3, N x.Until, .string x.Sig]
def api_Bid.z : api_Bid := ⟨0, api_Ask.z, api_Wide.z, 0, ⟨#[]⟩⟩
structure api_Message where
  Kind : Int
  Ask : api_Ask
  Bid : api_Bid
  Inv : api_Inv
  Var : api_Var
  Fee : api_Wide
  Sig : ByteArray
  deriving DecidableEq
def api_Message.cs (x : api_Message) : List Value := [N x.Kind, N x.Ask.User, N x.Ask.Send, N x.Ask.Recv, N x.Ask.To, U x.Ask.Amount.a0, U x.Ask.Amount.a1, U x.Ask.Amount.a2, U x.Ask.Amount.a3, .string x.Ask.Id, N x.Bid.Router, N x.Bid.Ask.User, N x.Bid.Ask.Send, N x.Bid.Ask.Recv, N x.Bid.Ask.To, U x.Bid.Ask.Amount.a0, U x.Bid.Ask.Amount.a1, U x.Bid.Ask.Amount.a2, U x.Bid.Ask.Amount.a3, .string x.Bid.Ask.Id, U x.Bid.Amount.a0, U x.Bid.Amount.a1, U x.Bid.Amount.a2, U x.Bid.Amount.a3, N x.Bid.Until, .string x.Bid.Sig, N x.Inv.User, .string x.Inv.Root, N x.Inv.Router, N x.Inv.Send, N x.Inv.Recv, N x.Inv.To, .string x.Inv.Id, U x.Var.Amount.a0, U x.Var.Amount.a1, U x.Var.Amount.a2, U x.Var.Amount.a3, N x.Var.Expiry, U x.Fee.a0, U x.Fee.a1, U x.Fee.a2, U x.Fee.a3, .string x.Sig]
def api_Message.z : api_Message := ⟨0, api_Ask.z, api_Bid.z, api_Inv.z, api_Var.z, api_Wide.z, ⟨#[]⟩⟩
structure api_Send where
  Side : Int
  Tx : api_Tx
  deriving DecidableEq
def api_Send.cs (x : api_Send) : List Value := [N x.Side, N x.Tx.From, N x.Tx.Nonce, N x.Tx.Kind, N x.Tx.Asset, U x.Tx.Amount.a0, U x.Tx.Amount.a1, U x.Tx.Amount.a2, U x.Tx.Amount.a3, N x.Tx.Inv.User, .string x.Tx.Inv.Root, N x.Tx.Inv.Router, N x.Tx.Inv.Send, N x.Tx.Inv.Recv, N x.Tx.Inv.To, .string x.Tx.Inv.Id, U x.Tx.Var.Amount.a0, U x.Tx.Var.Amount.a1, U x.Tx.Var.Amount.a2, U x.Tx.Var.Amount.a3, N x.Tx.Var.Expiry, U x.Tx.Fee.a0, U x.Tx.Fee.a1, U x.Tx.Fee.a2, U x.Tx.Fee.a3, .string x.Tx.Sig]
def api_Send.z : api_Send := ⟨0, api_Tx.z⟩
structure client_out where
  recs : Unit
  mail : List api_Message
  sends : List api_Send
  deriving DecidableEq
def client_out.cs (x : client_out) (z0 z1 : Value) : List Value := [nilSl, z0, z1]
def client_out.z : client_out := ⟨(), [], []⟩
structure client_Client where
  user : Int
  d : Int
  root : ByteArray
  roots : List ByteArray
  room : Option auction_Room
  disk : Option disk_Disk
  deals : Unit
  down : Bool
  made : Bool
  out : client_out
def client_Client.cs (x : client_Client) (z0 z1 z2 z3 z4 : Value) : List Value := [N x.user, N x.d, .string x.root, z0, z1, z2, nilSl, Bo x.down, Bo x.made, nilSl, z3, z4]
def client_Client.z : client_Client := ⟨0, 0, ⟨#[]⟩, [], none, none, (), false, false, client_out.z⟩
structure A2_client_Client where
  a0 : Option client_Client
  a1 : Option client_Client
def A2_client_Client.cs (x : A2_client_Client) (z0 z1 : Value) : List Value := [z0, z1]
def A2_client_Client.list (x : A2_client_Client) : List (Option client_Client) := [x.a0, x.a1]
def A2_client_Client.set (x : A2_client_Client) (k : Nat) (v : (Option client_Client)) : A2_client_Client := ⟨if k = 0 then v else x.a0, if k = 1 then v else x.a1⟩
def A2_client_Client.z : A2_client_Client := ⟨none, none⟩
structure router_Router where
  router : Int
  d : Int
  disk : Option disk_Disk
  asks : List api_Ask
  bids : List api_Bid
  mirrors : Unit
  down : Bool
  made : Bool
def router_Router.cs (x : router_Router) (z0 z1 z2 : Value) : List Value := [N x.router, N x.d, z0, z1, z2, nilSl, Bo x.down, Bo x.made]
def router_Router.z : router_Router := ⟨0, 0, none, [], [], (), false, false⟩
structure A2_router_Router where
  a0 : Option router_Router
  a1 : Option router_Router
def A2_router_Router.cs (x : A2_router_Router) (z0 z1 : Value) : List Value := [z0, z1]
def A2_router_Router.list (x : A2_router_Router) : List (Option router_Router) := [x.a0, x.a1]
def A2_router_Router.set (x : A2_router_Router) (k : Nat) (v : (Option router_Router)) : A2_router_Router := ⟨if k = 0 then v else x.a0, if k = 1 then v else x.a1⟩
def A2_router_Router.z : A2_router_Router := ⟨none, none⟩
structure relay_Relay where
  jobs : List api_Message
  made : Bool
  deriving DecidableEq
def relay_Relay.cs (x : relay_Relay) (z0 : Value) : List Value := [z0, Bo x.made]
def relay_Relay.g (x : relay_Relay) (z : Value) : Asn := rows 43 z (x.jobs.map api_Message.cs)
def relay_Relay.z : relay_Relay := ⟨[], false⟩
structure A4_i64 where
  a0 : Int
  a1 : Int
  a2 : Int
  a3 : Int
  deriving DecidableEq
def A4_i64.cs (x : A4_i64) : List Value := [N x.a0, N x.a1, N x.a2, N x.a3]
def A4_i64.list (x : A4_i64) : List Int := [x.a0, x.a1, x.a2, x.a3]
def A4_i64.set (x : A4_i64) (k : Nat) (v : Int) : A4_i64 := ⟨if k = 0 then v else x.a0, if k = 1 then v else x.a1, if k = 2 then v else x.a2, if k = 3 then v else x.a3⟩
def A4_i64.z : A4_i64 := ⟨0, 0, 0, 0⟩
structure A4_bool where
  a0 : Bool
  a1 : Bool
  a2 : Bool
  a3 : Bool
  deriving DecidableEq
def A4_bool.cs (x : A4_bool) : List Value := [Bo x.a0, Bo x.a1, Bo x.a2, Bo x.a3]
def A4_bool.list (x : A4_bool) : List Bool := [x.a0, x.a1, x.a2, x.a3]
def A4_bool.set (x : A4_bool) (k : Nat) (v : Bool) : A4_bool := ⟨if k = 0 then v else x.a0, if k = 1 then v else x.a1, if k = 2 then v else x.a2, if k = 3 then v else x.a3⟩
def A4_bool.z : A4_bool := ⟨false, false, false, false⟩
structure world_place where
  side : Int
  tx : api_Tx
  deriving DecidableEq
def world_place.cs (x : world_place) : List Value := [N x.side, N x.tx.From, N x.tx.Nonce, N x.tx.Kind, N x.tx.Asset, U x.tx.Amount.a0, U x.tx.Amount.a1, U x.tx.Amount.a2, U x.tx.Amount.a3, N x.tx.Inv.User, .string x.tx.Inv.Root, N x.tx.Inv.Router, N x.tx.Inv.Send, N x.tx.Inv.Recv, N x.tx.Inv.To, .string x.tx.Inv.Id, U x.tx.Var.Amount.a0, U x.tx.Var.Amount.a1, U x.tx.Var.Amount.a2, U x.tx.Var.Amount.a3, N x.tx.Var.Expiry, U x.tx.Fee.a0, U x.tx.Fee.a1, U x.tx.Fee.a2, U x.tx.Fee.a3, .string x.tx.Sig]
def world_place.z : world_place := ⟨0, api_Tx.z⟩
structure world_word where
  inv : api_Inv
  fee : api_Wide
  sig : ByteArray
  deriving DecidableEq
def world_word.cs (x : world_word) : List Value := [N x.inv.User, .string x.inv.Root, N x.inv.Router, N x.inv.Send, N x.inv.Recv, N x.inv.To, .string x.inv.Id, U x.fee.a0, U x.fee.a1, U x.fee.a2, U x.fee.a3, .string x.sig]
def world_word.z : world_word := ⟨api_Inv.z, api_Wide.z, ⟨#[]⟩⟩
structure world_data where
  Inv : api_Inv
  Var : api_Var
  deriving DecidableEq
def world_data.cs (x : world_data) : List Value := [N x.Inv.User, .string x.Inv.Root, N x.Inv.Router, N x.Inv.Send, N x.Inv.Recv, N x.Inv.To, .string x.Inv.Id, U x.Var.Amount.a0, U x.Var.Amount.a1, U x.Var.Amount.a2, U x.Var.Amount.a3, N x.Var.Expiry]
def world_data.z : world_data := ⟨api_Inv.z, api_Var.z⟩
structure world_World where
  setup : world_Setup
  sides : A2_chain_Chain
  clients : A2_client_Client
  routers : A2_router_Router
  relay : Option relay_Relay
  mail : Unit
  now : Int
  seen : A4_i64
  late : A4_bool
  since : Option (List (world_place × Int))
  told : Option (List (world_word × Bool))
  keys : Option (List (ByteArray × api_Inv))
  digests : Option (List (ByteArray × world_data))
  asked : A2_i64
  forged : Bool
  clash : Bool
def world_World.cs (x : world_World) (z0 z1 z2 z3 z4 z5 z6 z7 z8 z9 z10 : Value) : List Value := [N x.setup.Delay, N x.setup.Skew, N x.setup.Corrupt, N x.setup.Room, z0, z1, z2, z3, z4, z5, z6, nilSl, N x.now, N x.seen.a0, N x.seen.a1, N x.seen.a2, N x.seen.a3, Bo x.late.a0, Bo x.late.a1, Bo x.late.a2, Bo x.late.a3, z7, z8, z9, z10, N x.asked.a0, N x.asked.a1, Bo x.forged, Bo x.clash]
def world_World.z : world_World := ⟨world_Setup.z, A2_chain_Chain.z, A2_client_Client.z, A2_router_Router.z, none, (), 0, A4_i64.z, A4_bool.z, none, none, none, none, A2_i64.z, false, false⟩
theorem fa_23_0 : FaV Tryz.prog 23 0 0 := .mk runUnderlying23 rfl sizeOf3 rfl rfl
theorem fa_23_1 : FaV Tryz.prog 23 1 1 := .mk runUnderlying23 rfl sizeOf3 rfl rfl
theorem fa_23_2 : FaV Tryz.prog 23 2 2 := .mk runUnderlying23 rfl sizeOf3 rfl rfl
theorem fa_23_3 : FaV Tryz.prog 23 3 3 := .mk runUnderlying23 rfl sizeOf3 rfl rfl
theorem fa_38_0 : FaV Tryz.prog 38 0 0 := .mk runUnderlying38 rfl sizeOf3 rfl rfl
theorem fa_38_1 : FaV Tryz.prog 38 1 1 := .mk runUnderlying38 rfl sizeOf36 rfl rfl
theorem fa_38_2 : FaV Tryz.prog 38 2 3 := .mk runUnderlying38 rfl sizeOf3 rfl rfl
theorem fa_38_3 : FaV Tryz.prog 38 3 4 := .mk runUnderlying38 rfl sizeOf3 rfl rfl
theorem fa_38_4 : FaV Tryz.prog 38 4 5 := .mk runUnderlying38 rfl sizeOf3 rfl rfl
theorem fa_38_5 : FaV Tryz.prog 38 5 6 := .mk runUnderlying38 rfl sizeOf4 rfl rfl
theorem fa_38_6 : FaV Tryz.prog 38 6 7 := .mk runUnderlying38 rfl sizeOf4 rfl rfl
abbrev chain_Chain.bd (g : Nat × Value × Value × Value) : Nat := g.1
def chain_Chain.fp (x : chain_Chain) (g : Nat × Value × Value × Value) (M : List Asn) : List Asn := blk g.1 93 (chain_Chain.cs x g.2.1 g.2.2.1 g.2.2.2) :: lst 241 3 g.2.1 (x.s.Locks.map escrow_Lock.cs) :: lst 83 25 g.2.2.1 (x.pool.map api_Tx.cs) :: lst 162 27 g.2.2.2 (x.events.map api_Event.cs) :: M
abbrev auction_Room.bd (g : Nat × Value) : Nat := g.1
def auction_Room.fp (x : auction_Room) (g : Nat × Value) (M : List Asn) : List Asn := blk g.1 165 (auction_Room.cs x g.2) :: lst 9 1 g.2 (x.roots.map (fun x => [.string x])) :: M
abbrev disk_Disk.bd (g : Nat × Value) : Nat := g.1
def disk_Disk.fp (x : disk_Disk) (g : Nat × Value) (M : List Asn) : List Asn := blk g.1 155 (disk_Disk.cs x g.2) :: lst 5 1 g.2 (x.b.map (fun x => [B8 x])) :: M
abbrev client_Client.bd (g : Nat × Value × Value × Value × Value × Value) : Nat := g.1
def client_Client.fp (x : client_Client) (g : Nat × Value × Value × Value × Value × Value) (M : List Asn) : List Asn := blk g.1 122 (client_Client.cs x g.2.1 g.2.2.1 g.2.2.2.1 g.2.2.2.2.1 g.2.2.2.2.2) :: lst 9 1 g.2.1 (x.roots.map (fun x => [.string x])) :: bx auction_Room.bd auction_Room.fp g.2.2.1 x.room :: bx disk_Disk.bd disk_Disk.fp g.2.2.2.1 x.disk :: lst 176 43 g.2.2.2.2.1 (x.out.mail.map api_Message.cs) :: lst 181 26 g.2.2.2.2.2 (x.out.sends.map api_Send.cs) :: M
abbrev router_Router.bd (g : Nat × Value × Value × Value) : Nat := g.1
def router_Router.fp (x : router_Router) (g : Nat × Value × Value × Value) (M : List Asn) : List Asn := blk g.1 110 (router_Router.cs x g.2.1 g.2.2.1 g.2.2.2) :: bx disk_Disk.bd disk_Disk.fp g.2.1 x.disk :: lst 172 9 g.2.2.1 (x.asks.map api_Ask.cs) :: lst 174 16 g.2.2.2 (x.bids.map api_Bid.cs) :: M
abbrev relay_Relay.bd (g : Nat × Value) : Nat := g.1
def relay_Relay.fp (x : relay_Relay) (g : Nat × Value) (M : List Asn) : List Asn := blk g.1 124 (relay_Relay.cs x g.2) :: lst 176 43 g.2 (x.jobs.map api_Message.cs) :: M
abbrev world_World.bd (g : Nat × Value × Value × Value × Value × Value × Value × Value × Value × Value × Value × Value) : Nat := g.1
def world_World.fp (x : world_World) (g : Nat × Value × Value × Value × Value × Value × Value × Value × Value × Value × Value × Value) (M : List Asn) : List Asn := blk g.1 58 (world_World.cs x g.2.1 g.2.2.1 g.2.2.2.1 g.2.2.2.2.1 g.2.2.2.2.2.1 g.2.2.2.2.2.2.1 g.2.2.2.2.2.2.2.1 g.2.2.2.2.2.2.2.2.1 g.2.2.2.2.2.2.2.2.2.1 g.2.2.2.2.2.2.2.2.2.2.1 g.2.2.2.2.2.2.2.2.2.2.2) :: bx chain_Chain.bd chain_Chain.fp g.2.1 x.sides.a0 :: bx chain_Chain.bd chain_Chain.fp g.2.2.1 x.sides.a1 :: bx client_Client.bd client_Client.fp g.2.2.2.1 x.clients.a0 :: bx client_Client.bd client_Client.fp g.2.2.2.2.1 x.clients.a1 :: bx router_Router.bd router_Router.fp g.2.2.2.2.2.1 x.routers.a0 :: bx router_Router.bd router_Router.fp g.2.2.2.2.2.2.1 x.routers.a1 :: bx relay_Relay.bd relay_Relay.fp g.2.2.2.2.2.2.2.1 x.relay :: mb (fun (x : world_place) => Ag x.cs) (fun (x : Int) => N x) g.2.2.2.2.2.2.2.2.1 x.since :: mb (fun (x : world_word) => Ag x.cs) (fun (x : Bool) => Bo x) g.2.2.2.2.2.2.2.2.2.1 x.told :: mb (fun (x : ByteArray) => Value.string x) (fun (x : api_Inv) => Ag x.cs) g.2.2.2.2.2.2.2.2.2.2.1 x.keys :: mb (fun (x : ByteArray) => Value.string x) (fun (x : world_data) => Ag x.cs) g.2.2.2.2.2.2.2.2.2.2.2 x.digests :: M
theorem pl_23 : ∀ w, ((#[{ name := "Delay", type := 3, offset := 0, embedded := false, tag := "", pkgPath := "", byteOffset := 0 }, { name := "Skew", type := 3, offset := 1, embedded := false, tag := "", pkgPath := "", byteOffset := 8 }, { name := "Corrupt", type := 3, offset := 2, embedded := false, tag := "", pkgPath := "", byteOffset := 16 }, { name := "Room", type := 3, offset := 3, embedded := false, tag := "", pkgPath := "", byteOffset := 24 }] : Array Field).mapM fun f => do pure (f.offset, ← sizeOf f.type) : Sem (Array (Nat × Nat))).run Tryz.prog w = .ok #[(0, 1), (1, 1), (2, 1), (3, 1)] w := fun w => by simp [sizeOf3]
theorem pl_38 : ∀ w, ((#[{ name := "Now", type := 3, offset := 0, embedded := false, tag := "", pkgPath := "", byteOffset := 0 }, { name := "Events", type := 36, offset := 1, embedded := false, tag := "", pkgPath := "", byteOffset := 8 }, { name := "Mail", type := 3, offset := 3, embedded := false, tag := "", pkgPath := "", byteOffset := 24 }, { name := "Prepared", type := 3, offset := 4, embedded := false, tag := "", pkgPath := "", byteOffset := 32 }, { name := "Done", type := 3, offset := 5, embedded := false, tag := "", pkgPath := "", byteOffset := 40 }, { name := "Well", type := 4, offset := 6, embedded := false, tag := "", pkgPath := "", byteOffset := 48 }, { name := "Solvent", type := 4, offset := 7, embedded := false, tag := "", pkgPath := "", byteOffset := 49 }] : Array Field).mapM fun f => do pure (f.offset, ← sizeOf f.type) : Sem (Array (Nat × Nat))).run Tryz.prog w = .ok #[(0, 1), (1, 2), (3, 1), (4, 1), (5, 1), (6, 1), (7, 1)] w := fun w => by simp [sizeOf3, sizeOf4, sizeOf36]
theorem pl_58 : ∀ w, ((#[{ name := "setup", type := 23, offset := 0, embedded := false, tag := "", pkgPath := "narrows/world", byteOffset := 0 }, { name := "sides", type := 48, offset := 4, embedded := false, tag := "", pkgPath := "narrows/world", byteOffset := 32 }, { name := "clients", type := 50, offset := 6, embedded := false, tag := "", pkgPath := "narrows/world", byteOffset := 48 }, { name := "routers", type := 52, offset := 8, embedded := false, tag := "", pkgPath := "narrows/world", byteOffset := 64 }, { name := "relay", type := 53, offset := 10, embedded := false, tag := "", pkgPath := "narrows/world", byteOffset := 80 }, { name := "mail", type := 54, offset := 11, embedded := false, tag := "", pkgPath := "narrows/world", byteOffset := 88 }, { name := "now", type := 3, offset := 12, embedded := false, tag := "", pkgPath := "narrows/world", byteOffset := 112 }, { name := "seen", type := 55, offset := 13, embedded := false, tag := "", pkgPath := "narrows/world", byteOffset := 120 }, { name := "late", type := 56, offset := 17, embedded := false, tag := "", pkgPath := "narrows/world", byteOffset := 152 }, { name := "since", type := 44, offset := 21, embedded := false, tag := "", pkgPath := "narrows/world", byteOffset := 160 }, { name := "told", type := 45, offset := 22, embedded := false, tag := "", pkgPath := "narrows/world", byteOffset := 168 }, { name := "keys", type := 46, offset := 23, embedded := false, tag := "", pkgPath := "narrows/world", byteOffset := 176 }, { name := "digests", type := 47, offset := 24, embedded := false, tag := "", pkgPath := "narrows/world", byteOffset := 184 }, { name := "asked", type := 36, offset := 25, embedded := false, tag := "", pkgPath := "narrows/world", byteOffset := 192 }, { name := "forged", type := 4, offset := 27, embedded := false, tag := "", pkgPath := "narrows/world", byteOffset := 208 }, { name := "clash", type := 4, offset := 28, embedded := false, tag := "", pkgPath := "narrows/world", byteOffset := 209 }] : Array Field).mapM fun f => do pure (f.offset, ← sizeOf f.type) : Sem (Array (Nat × Nat))).run Tryz.prog w = .ok #[(0, 4), (4, 2), (6, 2), (8, 2), (10, 1), (11, 1), (12, 1), (13, 4), (17, 4), (21, 1), (22, 1), (23, 1), (24, 1), (25, 2), (27, 1), (28, 1)] w := fun w => by simp [sizeOf3, sizeOf4, sizeOf23, sizeOf36, sizeOf44, sizeOf45, sizeOf46, sizeOf47, sizeOf48, sizeOf50, sizeOf52, sizeOf53, sizeOf54, sizeOf55, sizeOf56]
theorem pl_72 : ∀ w, ((#[{ name := "Kind", type := 3, offset := 0, embedded := false, tag := "", pkgPath := "", byteOffset := 0 }, { name := "A", type := 3, offset := 1, embedded := false, tag := "", pkgPath := "", byteOffset := 8 }, { name := "B", type := 3, offset := 2, embedded := false, tag := "", pkgPath := "", byteOffset := 16 }, { name := "C", type := 3, offset := 3, embedded := false, tag := "", pkgPath := "", byteOffset := 24 }, { name := "Data", type := 70, offset := 4, embedded := false, tag := "", pkgPath := "", byteOffset := 32 }] : Array Field).mapM fun f => do pure (f.offset, ← sizeOf f.type) : Sem (Array (Nat × Nat))).run Tryz.prog w = .ok #[(0, 1), (1, 1), (2, 1), (3, 1), (4, 1)] w := fun w => by simp [sizeOf3, sizeOf70]
theorem one_5 (x : UInt8) : oneAll ((fun x => [B8 x]) x) = true := rfl
theorem one_9 (x : ByteArray) : oneAll ((fun x => [.string x]) x) = true := rfl
theorem onez_72 (x : api_Step) {z0 : Value} (hz0 : z0.oneCell' = true) : oneAll (api_Step.cs x z0) = true := by
  simp only [oneAll, api_Step.cs, List.all_cons, List.all_nil, hz0]
  rfl
theorem eqv_77 (d : Nat) (x y : api_Wide) : EqV Tryz.prog (d + 2) 77 (Ag x.cs) (Ag y.cs) (decide (x = y)) :=
  EqV.cast (.array (by kernel_rfl) sizeOf75 (.cons (.one isAgg75 rfl) (.one isAgg75 rfl) (EqV.u (by kernel_rfl)) (.cons (.one isAgg75 rfl) (.one isAgg75 rfl) (EqV.u (by kernel_rfl)) (.cons (.one isAgg75 rfl) (.one isAgg75 rfl) (EqV.u (by kernel_rfl)) (.cons (.one isAgg75 rfl) (.one isAgg75 rfl) (EqV.u (by kernel_rfl)) .nil))))) (by cases x; cases y; rw [Bool.eq_iff_iff]; simp [api_Wide.mk.injEq, and_assoc])
theorem eq_77_eql (x y : api_Wide) : BinV Tryz.prog .eql 77 (Ag x.cs) (Ag y.cs) (Bo (decide (x = y))) := .eqv (by kernel_rfl) (eqv_77 9998 x y)
theorem eq_77_neq (x y : api_Wide) : BinV Tryz.prog .neq 77 (Ag x.cs) (Ag y.cs) (Bo (decide (x ≠ y))) := by
  have := BinV.neqv (P := Tryz.prog) (by kernel_rfl) (eqv_77 9998 x y); rw [← decide_not'] at this; exact this
noncomputable def slices_Backward_uint64  : Unit :=
  ()
set_option maxRecDepth 20000 in
set_option maxHeartbeats 8000000 in
theorem S_slices_Backward_uint64 (v00 : Value) (hv00 : IsSl v00) (r : Unit) (h : slices_Backward_uint64  = r) :
    SpecF Tryz.prog 104 [v00] [] [] (fun z : Nat => True) (fun z => fnv 167 [pt z 0]) (fun z M => blk z 209 [v00] ::  M) (fun z M =>  M) := by
  refine .of func104 rfl ntmps104 rfl fun w0 D0 G0 => ?_
  unfold slices_Backward_uint64 at h
  refine .seq <| .reg rfl <| .opx (X.box (cs := [v00]) .t0 hv00.cells) rfl fun b1 => .op0 (OpP.toV (P.asg .k)) rfl <| .nil <| .then <| .seq <| .reg rfl <| .opp (P.mkf (.cons .t0 .nil)) rfl <| .opp (P.asg .t0) rfl <| .nil <| .then ?_
  refine .ret ?_
  subst h
  exact .finw b1 (.r1 rfl (.tmp .g0)) trivial (Ls.of (.cons .k0 .nil)) .nil
attribute [irreducible] slices_Backward_uint64
noncomputable def bits_Len64 (a0 : UInt64) : Option (Int) :=
  thn (if (decide (a0 ≥ 4294967296)) = true then (32, rshU a0 32) else (0, a0)) fun (y1 : Int × UInt64) => thn (if (decide (y1.2 ≥ 65536)) = true then ((IntKind.i64.wrap (y1.1 + 16), rshU y1.2 16)) else (y1.1, y1.2)) fun (y5 : Int × UInt64) => thn (if (decide (y5.2 ≥ 256)) = true then ((IntKind.i64.wrap (y5.1 + 8), rshU y5.2 8)) else (y5.1, y5.2)) fun (y9 : Int × UInt64) => Option.bind (bat (⟨#[0, 1, 2, 2, 3, 3, 3, 3, 4, 4, 4, 4, 4, 4, 4, 4, 5, 5, 5, 5, 5, 5, 5, 5, 5, 5, 5, 5, 5, 5, 5, 5, 6, 6, 6, 6, 6, 6, 6, 6, 6, 6, 6, 6, 6, 6, 6, 6, 6, 6, 6, 6, 6, 6, 6, 6, 6, 6, 6, 6, 6, 6, 6, 6, 7, 7, 7, 7, 7, 7, 7, 7, 7, 7, 7, 7, 7, 7, 7, 7, 7, 7, 7, 7, 7, 7, 7, 7, 7, 7, 7, 7, 7, 7, 7, 7, 7, 7, 7, 7, 7, 7, 7, 7, 7, 7, 7, 7, 7, 7, 7, 7, 7, 7, 7, 7, 7, 7, 7, 7, 7, 7, 7, 7, 7, 7, 7, 7, 8, 8, 8, 8, 8, 8, 8, 8, 8, 8, 8, 8, 8, 8, 8, 8, 8, 8, 8, 8, 8, 8, 8, 8, 8, 8, 8, 8, 8, 8, 8, 8, 8, 8, 8, 8, 8, 8, 8, 8, 8, 8, 8, 8, 8, 8, 8, 8, 8, 8, 8, 8, 8, 8, 8, 8, 8, 8, 8, 8, 8, 8, 8, 8, 8, 8, 8, 8, 8, 8, 8, 8, 8, 8, 8, 8, 8, 8, 8, 8, 8, 8, 8, 8, 8, 8, 8, 8, 8, 8, 8, 8, 8, 8, 8, 8, 8, 8, 8, 8, 8, 8, 8, 8, 8, 8, 8, 8, 8, 8, 8, 8, 8, 8, 8, 8, 8, 8, 8, 8, 8, 8, 8, 8, 8, 8, 8, 8]⟩ : ByteArray) ((B8i (y9.2.toNat : Int)).toNat : Int)) fun (x13 : UInt8) => some (IntKind.i64.wrap (y9.1 + (x13.toNat : Int)))
set_option maxRecDepth 20000 in
set_option maxHeartbeats 8000000 in
theorem S_bits_Len64 (a0 : UInt64) (r : Int) (h : bits_Len64 a0 = some r) :
    SpecF Tryz.prog 246 [U a0] [] [] (fun z : Unit => True) (fun z => N r) (fun z M =>  M) (fun z M =>  M) := by
  refine .of func246 rfl ntmps246 rfl fun w0 D0 G0 => ?_
  unfold bits_Len64 at h
  refine .seq <| .reg rfl <| .opp (P.asg .k) rfl <| .nil <| .then ?_
  obtain ⟨y1, hj3, h⟩ := thn_eq h
  refine .cutx (γ := Unit) (E1 := fun z2 => [(2, N y1.1), (0, U y1.2)]) (L1 := fun z2 => []) (R1 := fun z2 => []) ?_ (fun z2 => ?_)
  · clear h
    refine .seq <| .reg rfl <| .opp (P.mov .g1) rfl <| .opp (P.bin .t0 .k (BinV.geqU (x := a0) (y := 4294967296))) rfl <| .nil <| .then <| .cond .t0 (fun c4 => ?_) (fun c4 => ?_)
    · rw [if_pos c4] at hj3
      refine .seq <| .reg rfl <| .opp (P.mov .g1) rfl <| .opp (P.bin .t0 .k (BinV.shrU (x := a0) (n := 32) (by decide))) rfl <| .drop .k2 <| .opp (P.asg .t0) rfl <| .nil <| .then <| .reg rfl <| .drop .k1 <| .opp (P.asg .k) rfl <| .nil ?_
      subst hj3
      exact .stj () (.cons Mm.m0 (.cons Mm.m1 .nil)) (.of .nil) .nil
    · rw [if_neg (ne_true_of_eq_false c4)] at hj3
      refine .skip ?_
      subst hj3
      exact .stj () (.cons Mm.m0 (.cons Mm.m1 .nil)) (.of .nil) .nil
  · clear hj3
    obtain ⟨y5, hj7, h⟩ := thn_eq h
    refine .cutx (γ := Unit) (E1 := fun z6 => [(2, N y5.1), (0, U y5.2)]) (L1 := fun z6 => []) (R1 := fun z6 => []) ?_ (fun z6 => ?_)
    · clear h
      refine .seq <| .reg rfl <| .opp (P.mov .g1) rfl <| .opp (P.bin .t0 .k (BinV.geqU (x := y1.2) (y := 65536))) rfl <| .nil <| .then <| .cond .t0 (fun c8 => ?_) (fun c8 => ?_)
      · rw [if_pos c8] at hj7
        refine .seq <| .reg rfl <| .opp (P.mov .g1) rfl <| .opp (P.bin .t0 .k (BinV.shrU (x := y1.2) (n := 16) (by decide))) rfl <| .drop .k2 <| .opp (P.asg .t0) rfl <| .nil <| .then <| .reg rfl <| .opp (P.mov .g1) rfl <| .opp (P.bin .t0 .k .add) rfl <| .drop .k2 ?_
        refine .opp (P.asg .t0) rfl <| .nil ?_
        subst hj7
        exact .stj () (.cons Mm.m0 (.cons Mm.m1 .nil)) (.of .nil) .nil
      · rw [if_neg (ne_true_of_eq_false c8)] at hj7
        refine .skip ?_
        subst hj7
        exact .stj () (.cons Mm.m0 (.cons Mm.m1 .nil)) (.of .nil) .nil
    · clear hj7
      obtain ⟨y9, hj11, h⟩ := thn_eq h
      refine .cutx (γ := Unit) (E1 := fun z10 => [(2, N y9.1), (0, U y9.2)]) (L1 := fun z10 => []) (R1 := fun z10 => []) ?_ (fun z10 => ?_)
      · clear h
        refine .seq <| .reg rfl <| .opp (P.mov .g1) rfl <| .opp (P.bin .t0 .k (BinV.geqU (x := y5.2) (y := 256))) rfl <| .nil <| .then <| .cond .t0 (fun c12 => ?_) (fun c12 => ?_)
        · rw [if_pos c12] at hj11
          refine .seq <| .reg rfl <| .opp (P.mov .g1) rfl <| .opp (P.bin .t0 .k (BinV.shrU (x := y5.2) (n := 8) (by decide))) rfl <| .drop .k2 <| .opp (P.asg .t0) rfl <| .nil <| .then <| .reg rfl <| .opp (P.mov .g1) rfl <| .opp (P.bin .t0 .k .add) rfl <| .drop .k2 ?_
          refine .opp (P.asg .t0) rfl <| .nil ?_
          subst hj11
          exact .stj () (.cons Mm.m0 (.cons Mm.m1 .nil)) (.of .nil) .nil
        · rw [if_neg (ne_true_of_eq_false c12)] at hj11
          refine .skip ?_
          subst hj11
          exact .stj () (.cons Mm.m0 (.cons Mm.m1 .nil)) (.of .nil) .nil
      · clear hj11
        refine .seq <| .reg rfl <| .opp (P.mov .g0) rfl <| .opp (P.mov .t2) rfl <| .opp (P.cnvB8 (m := (y9.2.toNat : Int)) .t0 runUnderlying75 runUnderlying5) rfl ?_
        obtain ⟨x13, hx14, h⟩ := bnd_eq h
        obtain ⟨i15, hi16, hx14⟩ := bat_eq hx14
        refine .opp (P.idxsk (i := i15) .k .t0 hi16 runUnderlying9 hx14) rfl <| .opp (P.cnvIB8 (x := x13) .t0 runUnderlying5 runUnderlying3) rfl <| .opp (P.bin .t1 .t0 .add) rfl <| .drop .k1 <| .opp (P.asg .t0) rfl <| .nil <| .then <| .ret ?_
        cases h
        exact .finw () (.r1 rfl (.tmp .g0)) trivial (Ls.of .nil) .nil
attribute [irreducible] bits_Len64
noncomputable def bits_LeadingZeros64 (a0 : UInt64) : Option (Int) :=
  Option.bind (bits_Len64 a0) fun r1 => some (IntKind.i64.wrap (64 - r1))
set_option maxRecDepth 20000 in
set_option maxHeartbeats 8000000 in
theorem S_bits_LeadingZeros64 (a0 : UInt64) (r : Int) (h : bits_LeadingZeros64 a0 = some r) :
    SpecF Tryz.prog 168 [U a0] [] [] (fun z : Unit => True) (fun z => N r) (fun z M =>  M) (fun z M =>  M) := by
  refine .of func168 rfl ntmps168 rfl fun w0 D0 G0 => ?_
  unfold bits_LeadingZeros64 at h
  refine .seq <| .reg rfl <| .op0 (OpP.toV (P.asg .k)) rfl <| .nil <| .then <| .seq <| .reg rfl <| .opp (P.mov .t0) rfl ?_
  obtain ⟨r1, hr2, h⟩ := bnd_eq h
  refine .opg (G.call call246 (.cons .t0 .nil) (S_bits_Len64 a0 r1 hr2) .nil .nil (fun _ _ => rfl) (fun _ _ => rfl) rfl) rfl fun _ _ => .opp (P.bin .k .t0 .sub) rfl <| .opp (P.asg .t0) rfl <| .nil <| .then <| .ret ?_
  cases h
  exact .finw () (.r1 rfl (.tmp .g0)) trivial (Ls.of .nil) .nil
attribute [irreducible] bits_LeadingZeros64
noncomputable def bits_Div64 (a0 : UInt64) (a1 : UInt64) (a2 : UInt64) : Option (UInt64 × UInt64) :=
  if (decide (a2 = 0)) = true then none else (if (decide (a2 ≤ a0)) = true then none else (if (decide (a0 = 0)) = true then (grd (a2 ≠ 0) <| grd (a2 ≠ 0) <| some (a1 / a2, a1 % a2)) else (Option.bind (bits_LeadingZeros64 a2) fun r6 => grd ((rshU (lshU a2 ((Ui r6).toNat : Int)) 32) ≠ 0) <| Option.bind (Option.bind (loopW (fun (s12 : UInt64 × UInt64) => thn (if (decide (s12.2 ≥ 4294967296)) = true then true else (decide ((s12.2 * ((lshU a2 ((Ui r6).toNat : Int)) &&& 4294967295)) > ((4294967296 * s12.1) + (rshU (lshU a1 ((Ui r6).toNat : Int)) 32))))) fun (y21 : Bool) => if y21 = true then (if (decide ((s12.1 + (rshU (lshU a2 ((Ui r6).toNat : Int)) 32)) ≥ 4294967296)) = true then (some (.br ((s12.1 + (rshU (lshU a2 ((Ui r6).toNat : Int)) 32), s12.2 - 1)))) else (some (.nx ((s12.1 + (rshU (lshU a2 ((Ui r6).toNat : Int)) 32), s12.2 - 1))))) else (some (.br (s12.1, s12.2)))) ((((lshU a0 ((Ui r6).toNat : Int)) ||| (rshU a1 ((64 - (Ui r6)).toNat : Int))) - ((((lshU a0 ((Ui r6).toNat : Int)) ||| (rshU a1 ((64 - (Ui r6)).toNat : Int))) / (rshU (lshU a2 ((Ui r6).toNat : Int)) 32)) * (rshU (lshU a2 ((Ui r6).toNat : Int)) 32)), ((lshU a0 ((Ui r6).toNat : Int)) ||| (rshU a1 ((64 - (Ui r6)).toNat : Int))) / (rshU (lshU a2 ((Ui r6).toNat : Int)) 32)))) fun o14 => Lo.on o14 fun (s12 : UInt64 × UInt64) => some s12.2) fun (y9 : UInt64) => grd ((rshU (lshU a2 ((Ui r6).toNat : Int)) 32) ≠ 0) <| Option.bind (Option.bind (loopW (fun (s33 : UInt64 × UInt64) => thn (if (decide (s33.2 ≥ 4294967296)) = true then true else (decide ((s33.2 * ((lshU a2 ((Ui r6).toNat : Int)) &&& 4294967295)) > ((4294967296 * s33.1) + ((lshU a1 ((Ui r6).toNat : Int)) &&& 4294967295))))) fun (y42 : Bool) => if y42 = true then (if (decide ((s33.1 + (rshU (lshU a2 ((Ui r6).toNat : Int)) 32)) ≥ 4294967296)) = true then (some (.br ((s33.1 + (rshU (lshU a2 ((Ui r6).toNat : Int)) 32), s33.2 - 1)))) else (some (.nx ((s33.1 + (rshU (lshU a2 ((Ui r6).toNat : Int)) 32), s33.2 - 1))))) else (some (.br (s33.1, s33.2)))) (((((((lshU a0 ((Ui r6).toNat : Int)) ||| (rshU a1 ((64 - (Ui r6)).toNat : Int))) * 4294967296) + (rshU (lshU a1 ((Ui r6).toNat : Int)) 32)) - (y9 * (lshU a2 ((Ui r6).toNat : Int)))) - (((((((lshU a0 ((Ui r6).toNat : Int)) ||| (rshU a1 ((64 - (Ui r6)).toNat : Int))) * 4294967296) + (rshU (lshU a1 ((Ui r6).toNat : Int)) 32)) - (y9 * (lshU a2 ((Ui r6).toNat : Int)))) / (rshU (lshU a2 ((Ui r6).toNat : Int)) 32)) * (rshU (lshU a2 ((Ui r6).toNat : Int)) 32)), (((((lshU a0 ((Ui r6).toNat : Int)) ||| (rshU a1 ((64 - (Ui r6)).toNat : Int))) * 4294967296) + (rshU (lshU a1 ((Ui r6).toNat : Int)) 32)) - (y9 * (lshU a2 ((Ui r6).toNat : Int)))) / (rshU (lshU a2 ((Ui r6).toNat : Int)) 32)))) fun o35 => Lo.on o35 fun (s33 : UInt64 × UInt64) => some s33.2) fun (y30 : UInt64) => some (((y9 * 4294967296) + y30, rshU ((((((((lshU a0 ((Ui r6).toNat : Int)) ||| (rshU a1 ((64 - (Ui r6)).toNat : Int))) * 4294967296) + (rshU (lshU a1 ((Ui r6).toNat : Int)) 32)) - (y9 * (lshU a2 ((Ui r6).toNat : Int)))) * 4294967296) + ((lshU a1 ((Ui r6).toNat : Int)) &&& 4294967295)) - (y30 * (lshU a2 ((Ui r6).toNat : Int)))) ((Ui r6).toNat : Int))))))
set_option maxRecDepth 20000 in
set_option maxHeartbeats 8000000 in
theorem S_bits_Div64 (a0 : UInt64) (a1 : UInt64) (a2 : UInt64) (r : UInt64 × UInt64) (h : bits_Div64 a0 a1 a2 = some r) :
    SpecF Tryz.prog 105 [U a0, U a1, U a2] [] [] (fun z : Unit => True) (fun z => Tu [U r.1, U r.2]) (fun z M =>  M) (fun z M =>  M) := by
  refine .of func105 rfl ntmps105 rfl fun w0 D0 G0 => ?_
  unfold bits_Div64 at h
  refine .seq <| .reg rfl <| .op0 (OpP.toV (P.asg .k)) rfl <| .op0 (OpP.toV (P.asg .k)) rfl <| .nil <| .then <| .seq <| .seq <| .reg rfl <| .opp (P.mov .g2) rfl <| .opp (P.bin .t0 .k (BinV.eqlU (x := a2) (y := 0))) rfl <| .nil ?_
  refine .then <| .cond .t0 (fun c1 => ?_) (fun c1 => ?_)
  · rw [if_pos c1] at h
    refine .reg rfl ?_
    cases h
  · rw [if_neg (ne_true_of_eq_false c1)] at h
    refine .skip <| .then <| .seq <| .seq <| .reg rfl <| .opp (P.mov .g2) rfl <| .opp (P.mov .g1) rfl <| .opp (P.bin .t1 .t0 (BinV.leqU (x := a2) (y := a0))) rfl <| .nil <| .then <| .cond .t0 (fun c2 => ?_) (fun c2 => ?_)
    · rw [if_pos c2] at h
      refine .reg rfl ?_
      cases h
    · rw [if_neg (ne_true_of_eq_false c2)] at h
      refine .skip <| .then <| .seq <| .seq <| .reg rfl <| .opp (P.mov .g0) rfl <| .opp (P.bin .t0 .k (BinV.eqlU (x := a0) (y := 0))) rfl <| .nil <| .then <| .cond .t0 (fun c3 => ?_) (fun c3 => ?_)
      · rw [if_pos c3] at h
        refine .seq <| .draw 8 (.on 0 .pu (.on 1 .pu (.on 2 .pu (.on 3 .pu (.on 4 .pu (.on 5 .pu (.on 6 .go (.on 7 .go .nl)))))))) follows_mixed (.thn (.thn .body)) (by kernel_rfl) <| .dpu rfl (.n rfl) (P.mov .g1) rfl rfl <| .dpu rfl (.n rfl) (P.mov .g3) rfl rfl ?_
        obtain ⟨hb4, h⟩ := grd_eq h
        refine .dpu rfl (.n rfl) (P.bin .t1 .t0 (BinV.quoU (x := a1) (y := a2) hb4)) rfl rfl <| .dpu rfl (.n rfl) (P.mov .t2) rfl rfl <| .dpu rfl (.n rfl) (P.mov .t3) rfl rfl ?_
        obtain ⟨hb5, h⟩ := grd_eq h
        refine .dpu rfl (.n rfl) (P.bin .t1 .t0 (BinV.remU (x := a1) (y := a2) hb5)) rfl rfl <| .dgo rfl (.n rfl) (OpV.g (OpP.toV (P.asg .t1)) rfl) (.inr fun _ _ _ h => h) fun _ _ => .dgo rfl (.n rfl) (OpV.g (OpP.toV (P.asg .t1)) rfl) (.inr fun _ _ _ h => h) fun _ _ => .dnil <| .then <| .ret <| .thr ?_
        cases h
        exact .finw () (.r2 rfl (.tmp .g1) (.tmp .g0)) trivial (Ls.of .nil) .nil
      · rw [if_neg (ne_true_of_eq_false c3)] at h
        refine .skip <| .then <| .seq <| .reg rfl <| .opp (P.mov .g2) rfl ?_
        obtain ⟨r6, hr7, h⟩ := bnd_eq h
        refine .opg (G.call call168 (.cons .t0 .nil) (S_bits_LeadingZeros64 a2 r6 hr7) .nil .nil (fun _ _ => rfl) (fun _ _ => rfl) rfl) rfl fun _ _ => .opp (P.cnvU (m := r6) .t0 runUnderlying3 runUnderlying274) rfl <| .opp (P.asg .t0) rfl <| .nil <| .then <| .seq <| .reg rfl <| .opp (P.mov .g3) rfl <| .opp (P.mov .g1) rfl <| .opp (P.bin .t1 .t0 (BinV.shlU (x := a2) (n := ((Ui r6).toNat : Int)) (Int.natCast_nonneg _))) rfl <| .drop .k4 <| .opp (P.asg .t0) rfl ?_
        refine .nil <| .then <| .seq <| .reg rfl <| .opp (P.mov .g0) rfl <| .opp (P.bin .t0 .k (BinV.shrU (x := lshU a2 ((Ui r6).toNat : Int)) (n := 32) (by decide))) rfl <| .opp (P.asg .t0) rfl <| .nil <| .then <| .seq <| .reg rfl <| .opp (P.mov .g1) rfl ?_
        refine .opp (P.bin .t0 .k (BinV.andU (x := lshU a2 ((Ui r6).toNat : Int)) (y := 4294967295))) rfl <| .opp (P.asg .t0) rfl <| .nil <| .then <| .seq <| .reg rfl <| .opp (P.mov .t4) rfl <| .opp (P.mov .g4) rfl <| .opp (P.bin .t1 .t0 (BinV.shlU (x := a0) (n := ((Ui r6).toNat : Int)) (Int.natCast_nonneg _))) rfl <| .opp (P.mov .g5) rfl <| .opp (P.mov .g5) rfl <| .opp (P.bin .k .t0 (BinV.subU (x := 64) (y := Ui r6))) rfl ?_
        refine .opp (P.bin .t1 .t0 (BinV.shrU (x := a1) (n := ((64 - (Ui r6)).toNat : Int)) (Int.natCast_nonneg _))) rfl <| .opp (P.bin .t1 .t0 (BinV.orU (x := lshU a0 ((Ui r6).toNat : Int)) (y := rshU a1 ((64 - (Ui r6)).toNat : Int)))) rfl <| .opp (P.asg .t0) rfl <| .nil <| .then <| .seq <| .reg rfl <| .opp (P.mov .t5) rfl <| .opp (P.mov .g5) rfl <| .opp (P.bin .t1 .t0 (BinV.shlU (x := a1) (n := ((Ui r6).toNat : Int)) (Int.natCast_nonneg _))) rfl <| .opp (P.asg .t0) rfl <| .nil ?_
        refine .then <| .seq <| .reg rfl <| .opp (P.mov .g0) rfl <| .opp (P.bin .t0 .k (BinV.shrU (x := lshU a1 ((Ui r6).toNat : Int)) (n := 32) (by decide))) rfl <| .opp (P.asg .t0) rfl <| .nil <| .then <| .seq <| .reg rfl <| .opp (P.mov .t1) rfl <| .opp (P.bin .t0 .k (BinV.andU (x := lshU a1 ((Ui r6).toNat : Int)) (y := 4294967295))) rfl ?_
        refine .opp (P.asg .t0) rfl <| .nil <| .then <| .seq <| .reg rfl <| .opp (P.mov .g2) rfl <| .opp (P.mov .g5) rfl ?_
        obtain ⟨hb8, h⟩ := grd_eq h
        refine .opp (P.bin .t1 .t0 (BinV.quoU (x := (lshU a0 ((Ui r6).toNat : Int)) ||| (rshU a1 ((64 - (Ui r6)).toNat : Int))) (y := rshU (lshU a2 ((Ui r6).toNat : Int)) 32) hb8)) rfl <| .opp (P.asg .t0) rfl <| .nil <| .then <| .seq <| .reg rfl <| .opp (P.mov .g3) rfl <| .opp (P.mov .g1) rfl <| .opp (P.mov .g7) rfl <| .opp (P.bin .t1 .t0 (BinV.mulU (x := ((lshU a0 ((Ui r6).toNat : Int)) ||| (rshU a1 ((64 - (Ui r6)).toNat : Int))) / (rshU (lshU a2 ((Ui r6).toNat : Int)) 32)) (y := rshU (lshU a2 ((Ui r6).toNat : Int)) 32))) rfl <| .opp (P.bin .t1 .t0 (BinV.subU (x := (lshU a0 ((Ui r6).toNat : Int)) ||| (rshU a1 ((64 - (Ui r6)).toNat : Int))) (y := (((lshU a0 ((Ui r6).toNat : Int)) ||| (rshU a1 ((64 - (Ui r6)).toNat : Int))) / (rshU (lshU a2 ((Ui r6).toNat : Int)) 32)) * (rshU (lshU a2 ((Ui r6).toNat : Int)) 32)))) rfl <| .opp (P.asg .t0) rfl ?_
        refine .nil <| .then ?_
        obtain ⟨y9, hj11, h⟩ := bnd_eq h
        refine .cutx (γ := Unit) (E1 := fun z10 => [(15, U y9), (14, U ((lshU a1 ((Ui r6).toNat : Int)) &&& 4294967295)), (13, U (rshU (lshU a1 ((Ui r6).toNat : Int)) 32)), (11, U ((lshU a0 ((Ui r6).toNat : Int)) ||| (rshU a1 ((64 - (Ui r6)).toNat : Int)))), (10, U ((lshU a2 ((Ui r6).toNat : Int)) &&& 4294967295)), (9, U (rshU (lshU a2 ((Ui r6).toNat : Int)) 32)), (2, U (lshU a2 ((Ui r6).toNat : Int))), (8, U (Ui r6))]) (L1 := fun z10 => []) (R1 := fun z10 => []) ?_ (fun z10 => ?_)
        · clear h
          refine .block ?_
          obtain ⟨o14, ho15, hj11⟩ := bnd_eq hj11
          refine .loopW (γ := Unit) (fun (s12 : UInt64 × UInt64) z13 => [(16, U s12.1), (15, U s12.2), (14, U ((lshU a1 ((Ui r6).toNat : Int)) &&& 4294967295)), (13, U (rshU (lshU a1 ((Ui r6).toNat : Int)) 32)), (11, U ((lshU a0 ((Ui r6).toNat : Int)) ||| (rshU a1 ((64 - (Ui r6)).toNat : Int)))), (10, U ((lshU a2 ((Ui r6).toNat : Int)) &&& 4294967295)), (9, U (rshU (lshU a2 ((Ui r6).toNat : Int)) 32)), (2, U (lshU a2 ((Ui r6).toNat : Int))), (8, U (Ui r6))]) (fun (s12 : UInt64 × UInt64) z13 => []) (fun (s12 : UInt64 × UInt64) z13 => []) () ho15 (.cons Mm.m0 (.cons Mm.m1 (.cons Mm.m2 (.cons Mm.m3 (.cons Mm.m4 (.cons Mm.m5 (.cons Mm.m6 (.cons Mm.m7 (.cons Mm.m8 .nil))))))))) (.of .nil) .nil (fun n20 s12 z13 hr18 => ?_)
          obtain ⟨ct19, hc16, hn17⟩ := loopK_at hr18
          refine .seq ?_
          obtain ⟨y21, hj23, hc16⟩ := thn_eq hc16
          refine .cutx (γ := Unit) (E1 := fun z22 => [(78, Bo y21), (16, U s12.1), (15, U s12.2), (14, U ((lshU a1 ((Ui r6).toNat : Int)) &&& 4294967295)), (13, U (rshU (lshU a1 ((Ui r6).toNat : Int)) 32)), (11, U ((lshU a0 ((Ui r6).toNat : Int)) ||| (rshU a1 ((64 - (Ui r6)).toNat : Int)))), (10, U ((lshU a2 ((Ui r6).toNat : Int)) &&& 4294967295)), (9, U (rshU (lshU a2 ((Ui r6).toNat : Int)) 32)), (2, U (lshU a2 ((Ui r6).toNat : Int))), (8, U (Ui r6))]) (L1 := fun z22 => []) (R1 := fun z22 => []) ?_ (fun z22 => ?_)
          · clear hc16
            refine .reg rfl <| .opp (P.mov .g1) rfl <| .opp (P.bin .t0 .k (BinV.geqU (x := s12.2) (y := 4294967296))) rfl <| .opp (P.mov .t0) rfl <| .split .k0 (fun c24 => ?_) (fun c24 => ?_)
            · rw [if_pos c24] at hj23
              refine .gno rfl .g0 rfl rfl <| .gno rfl .g0 rfl rfl <| .gno rfl .g0 rfl rfl <| .gno rfl .g0 rfl rfl <| .gno rfl .g0 rfl rfl <| .gno rfl .g0 rfl rfl <| .gno rfl .g0 rfl rfl <| .gno rfl .g0 rfl rfl <| .opp (P.pickT .t0 .k) rfl <| .nil ?_
              subst hj23
              exact .stj () (.cons Mm.m0 (.cons Mm.m1 (.cons Mm.m2 (.cons Mm.m3 (.cons Mm.m4 (.cons Mm.m5 (.cons Mm.m6 (.cons Mm.m7 (.cons Mm.m8 (.cons Mm.m9 .nil)))))))))) (.of .nil) .nil
            · rw [if_neg (ne_true_of_eq_false c24)] at hj23
              refine .gyes rfl .g0 <| .opp (P.mov .g2) rfl <| .gyes rfl .g1 <| .opp (P.mov .g7) rfl <| .gyes rfl .g2 <| .opp (P.bin .t1 .t0 (BinV.mulU (x := s12.2) (y := (lshU a2 ((Ui r6).toNat : Int)) &&& 4294967295))) rfl <| .gyes rfl .g1 <| .opp (P.mov .g2) rfl <| .gyes rfl .g2 <| .opp (P.bin .k .t0 (BinV.mulU (x := 4294967296) (y := s12.1))) rfl <| .gyes rfl .g2 <| .opp (P.mov .g6) rfl ?_
              refine .gyes rfl .g3 <| .opp (P.bin .t1 .t0 (BinV.addU (x := 4294967296 * s12.1) (y := rshU (lshU a1 ((Ui r6).toNat : Int)) 32))) rfl <| .gyes rfl .g2 <| .opp (P.bin .t1 .t0 (BinV.gtrU (x := s12.2 * ((lshU a2 ((Ui r6).toNat : Int)) &&& 4294967295)) (y := (4294967296 * s12.1) + (rshU (lshU a1 ((Ui r6).toNat : Int)) 32)))) rfl <| .opp (P.pickF .t1 .t0) rfl <| .nil ?_
              subst hj23
              exact .stj () (.cons Mm.m0 (.cons Mm.m1 (.cons Mm.m2 (.cons Mm.m3 (.cons Mm.m4 (.cons Mm.m5 (.cons Mm.m6 (.cons Mm.m7 (.cons Mm.m8 (.cons Mm.m9 .nil)))))))))) (.of .nil) .nil
          · clear hj23
            refine .cond .t0 (fun c25 => ?_) (fun c25 => ?_)
            · rw [if_pos c25] at hc16
              refine .skip <| .then <| .block <| .seq <| .reg rfl <| .opp (P.mov .g1) rfl <| .opp (P.bin .t0 .k (BinV.subU (x := s12.2) (y := 1))) rfl <| .drop .k2 <| .opp (P.asg .t0) rfl <| .nil <| .then <| .seq ?_
              refine .reg rfl <| .opp (P.mov .g1) rfl <| .opp (P.mov .g7) rfl <| .opp (P.bin .t1 .t0 (BinV.addU (x := s12.1) (y := rshU (lshU a2 ((Ui r6).toNat : Int)) 32))) rfl <| .drop .k2 <| .opp (P.asg .t0) rfl <| .nil <| .then <| .seq <| .reg rfl <| .opp (P.mov .g0) rfl <| .opp (P.bin .t0 .k (BinV.geqU (x := s12.1 + (rshU (lshU a2 ((Ui r6).toNat : Int)) 32)) (y := 4294967296))) rfl ?_
              refine .nil <| .then <| .cond .t0 (fun c26 => ?_) (fun c26 => ?_)
              · rw [if_pos c26] at hc16
                refine .exit <| .outb rfl ?_
                cases hc16
                refine .told (γ := Unit) hj11 hn17 (fun (s12 : UInt64 × UInt64) _ => [(16, U s12.1), (15, U s12.2), (14, U ((lshU a1 ((Ui r6).toNat : Int)) &&& 4294967295)), (13, U (rshU (lshU a1 ((Ui r6).toNat : Int)) 32)), (11, U ((lshU a0 ((Ui r6).toNat : Int)) ||| (rshU a1 ((64 - (Ui r6)).toNat : Int)))), (10, U ((lshU a2 ((Ui r6).toNat : Int)) &&& 4294967295)), (9, U (rshU (lshU a2 ((Ui r6).toNat : Int)) 32)), (2, U (lshU a2 ((Ui r6).toNat : Int))), (8, U (Ui r6))]) (fun (s12 : UInt64 × UInt64) _ => []) (fun (s12 : UInt64 × UInt64) _ => []) () (.cons Mm.m0 (.cons Mm.m1 (.cons Mm.m2 (.cons Mm.m3 (.cons Mm.m4 (.cons Mm.m5 (.cons Mm.m6 (.cons Mm.m7 (.cons Mm.m8 .nil))))))))) (.of .nil) .nil (fun s12 _ hj11' => ?_)
                replace hj11 := hj11'
                refine .thx <| .inb ?_
                cases hj11
                exact .stj () (.cons Mm.m1 (.cons Mm.m2 (.cons Mm.m3 (.cons Mm.m4 (.cons Mm.m5 (.cons Mm.m6 (.cons Mm.m7 (.cons Mm.m8 .nil)))))))) (.of .nil) .nil
              · rw [if_neg (ne_true_of_eq_false c26)] at hc16
                refine .skip <| .inn ?_
                cases hc16
                obtain ⟨m27, hm28, hn17⟩ := hn17
                exact .rdW ((s12.1 + (rshU (lshU a2 ((Ui r6).toNat : Int)) 32), s12.2 - 1)) () hm28 hn17 (.cons Mm.m0 (.cons Mm.m1 (.cons Mm.m2 (.cons Mm.m3 (.cons Mm.m4 (.cons Mm.m5 (.cons Mm.m6 (.cons Mm.m7 (.cons Mm.m8 .nil))))))))) (.of .nil) .nil
            · rw [if_neg (ne_true_of_eq_false c25)] at hc16
              refine .exit <| .thx ?_
              cases hc16
              refine .told (γ := Unit) hj11 hn17 (fun (s12 : UInt64 × UInt64) _ => [(16, U s12.1), (15, U s12.2), (14, U ((lshU a1 ((Ui r6).toNat : Int)) &&& 4294967295)), (13, U (rshU (lshU a1 ((Ui r6).toNat : Int)) 32)), (11, U ((lshU a0 ((Ui r6).toNat : Int)) ||| (rshU a1 ((64 - (Ui r6)).toNat : Int)))), (10, U ((lshU a2 ((Ui r6).toNat : Int)) &&& 4294967295)), (9, U (rshU (lshU a2 ((Ui r6).toNat : Int)) 32)), (2, U (lshU a2 ((Ui r6).toNat : Int))), (8, U (Ui r6))]) (fun (s12 : UInt64 × UInt64) _ => []) (fun (s12 : UInt64 × UInt64) _ => []) () (.cons Mm.m0 (.cons Mm.m1 (.cons Mm.m2 (.cons Mm.m3 (.cons Mm.m4 (.cons Mm.m5 (.cons Mm.m6 (.cons Mm.m7 (.cons Mm.m8 .nil))))))))) (.of .nil) .nil (fun s12 _ hj11' => ?_)
              replace hj11 := hj11'
              refine .thx <| .inb ?_
              cases hj11
              exact .stj () (.cons Mm.m1 (.cons Mm.m2 (.cons Mm.m3 (.cons Mm.m4 (.cons Mm.m5 (.cons Mm.m6 (.cons Mm.m7 (.cons Mm.m8 .nil)))))))) (.of .nil) .nil
        · clear hj11
          refine .seq <| .reg rfl <| .opp (P.mov .t3) rfl <| .opp (P.bin .t0 .k (BinV.mulU (x := (lshU a0 ((Ui r6).toNat : Int)) ||| (rshU a1 ((64 - (Ui r6)).toNat : Int))) (y := 4294967296))) rfl <| .opp (P.mov .t3) rfl <| .opp (P.bin .t1 .t0 (BinV.addU (x := ((lshU a0 ((Ui r6).toNat : Int)) ||| (rshU a1 ((64 - (Ui r6)).toNat : Int))) * 4294967296) (y := rshU (lshU a1 ((Ui r6).toNat : Int)) 32))) rfl <| .opp (P.mov .g1) rfl <| .opp (P.mov .g6) rfl <| .opp (P.bin .t1 .t0 (BinV.mulU (x := y9) (y := lshU a2 ((Ui r6).toNat : Int)))) rfl <| .opp (P.bin .t1 .t0 (BinV.subU (x := (((lshU a0 ((Ui r6).toNat : Int)) ||| (rshU a1 ((64 - (Ui r6)).toNat : Int))) * 4294967296) + (rshU (lshU a1 ((Ui r6).toNat : Int)) 32)) (y := y9 * (lshU a2 ((Ui r6).toNat : Int))))) rfl <| .opp (P.asg .t0) rfl <| .nil ?_
          refine .then <| .seq <| .reg rfl <| .opp (P.mov .g0) rfl <| .opp (P.mov .g5) rfl ?_
          obtain ⟨hb29, h⟩ := grd_eq h
          refine .opp (P.bin .t1 .t0 (BinV.quoU (x := ((((lshU a0 ((Ui r6).toNat : Int)) ||| (rshU a1 ((64 - (Ui r6)).toNat : Int))) * 4294967296) + (rshU (lshU a1 ((Ui r6).toNat : Int)) 32)) - (y9 * (lshU a2 ((Ui r6).toNat : Int)))) (y := rshU (lshU a2 ((Ui r6).toNat : Int)) 32) hb29)) rfl <| .opp (P.asg .t0) rfl <| .nil <| .then <| .seq <| .reg rfl <| .opp (P.mov .g1) rfl <| .opp (P.mov .g1) rfl <| .opp (P.mov .g7) rfl <| .opp (P.bin .t1 .t0 (BinV.mulU (x := (((((lshU a0 ((Ui r6).toNat : Int)) ||| (rshU a1 ((64 - (Ui r6)).toNat : Int))) * 4294967296) + (rshU (lshU a1 ((Ui r6).toNat : Int)) 32)) - (y9 * (lshU a2 ((Ui r6).toNat : Int)))) / (rshU (lshU a2 ((Ui r6).toNat : Int)) 32)) (y := rshU (lshU a2 ((Ui r6).toNat : Int)) 32))) rfl <| .opp (P.bin .t1 .t0 (BinV.subU (x := ((((lshU a0 ((Ui r6).toNat : Int)) ||| (rshU a1 ((64 - (Ui r6)).toNat : Int))) * 4294967296) + (rshU (lshU a1 ((Ui r6).toNat : Int)) 32)) - (y9 * (lshU a2 ((Ui r6).toNat : Int)))) (y := ((((((lshU a0 ((Ui r6).toNat : Int)) ||| (rshU a1 ((64 - (Ui r6)).toNat : Int))) * 4294967296) + (rshU (lshU a1 ((Ui r6).toNat : Int)) 32)) - (y9 * (lshU a2 ((Ui r6).toNat : Int)))) / (rshU (lshU a2 ((Ui r6).toNat : Int)) 32)) * (rshU (lshU a2 ((Ui r6).toNat : Int)) 32)))) rfl <| .opp (P.asg .t0) rfl ?_
          refine .nil <| .then ?_
          obtain ⟨y30, hj32, h⟩ := bnd_eq h
          refine .cutx (γ := Unit) (E1 := fun z31 => [(18, U y30), (17, U (((((lshU a0 ((Ui r6).toNat : Int)) ||| (rshU a1 ((64 - (Ui r6)).toNat : Int))) * 4294967296) + (rshU (lshU a1 ((Ui r6).toNat : Int)) 32)) - (y9 * (lshU a2 ((Ui r6).toNat : Int))))), (15, U y9), (14, U ((lshU a1 ((Ui r6).toNat : Int)) &&& 4294967295)), (2, U (lshU a2 ((Ui r6).toNat : Int))), (8, U (Ui r6))]) (L1 := fun z31 => []) (R1 := fun z31 => []) ?_ (fun z31 => ?_)
          · clear h
            refine .block ?_
            obtain ⟨o35, ho36, hj32⟩ := bnd_eq hj32
            refine .loopW (γ := Unit) (fun (s33 : UInt64 × UInt64) z34 => [(16, U s33.1), (18, U s33.2), (17, U (((((lshU a0 ((Ui r6).toNat : Int)) ||| (rshU a1 ((64 - (Ui r6)).toNat : Int))) * 4294967296) + (rshU (lshU a1 ((Ui r6).toNat : Int)) 32)) - (y9 * (lshU a2 ((Ui r6).toNat : Int))))), (15, U y9), (14, U ((lshU a1 ((Ui r6).toNat : Int)) &&& 4294967295)), (10, U ((lshU a2 ((Ui r6).toNat : Int)) &&& 4294967295)), (9, U (rshU (lshU a2 ((Ui r6).toNat : Int)) 32)), (2, U (lshU a2 ((Ui r6).toNat : Int))), (8, U (Ui r6))]) (fun (s33 : UInt64 × UInt64) z34 => []) (fun (s33 : UInt64 × UInt64) z34 => []) () ho36 (.cons Mm.m0 (.cons Mm.m1 (.cons Mm.m2 (.cons Mm.m3 (.cons Mm.m4 (.cons Mm.m5 (.cons Mm.m6 (.cons Mm.m7 (.cons Mm.m8 .nil))))))))) (.of .nil) .nil (fun n41 s33 z34 hr39 => ?_)
            obtain ⟨ct40, hc37, hn38⟩ := loopK_at hr39
            refine .seq ?_
            obtain ⟨y42, hj44, hc37⟩ := thn_eq hc37
            refine .cutx (γ := Unit) (E1 := fun z43 => [(113, Bo y42), (16, U s33.1), (18, U s33.2), (17, U (((((lshU a0 ((Ui r6).toNat : Int)) ||| (rshU a1 ((64 - (Ui r6)).toNat : Int))) * 4294967296) + (rshU (lshU a1 ((Ui r6).toNat : Int)) 32)) - (y9 * (lshU a2 ((Ui r6).toNat : Int))))), (15, U y9), (14, U ((lshU a1 ((Ui r6).toNat : Int)) &&& 4294967295)), (10, U ((lshU a2 ((Ui r6).toNat : Int)) &&& 4294967295)), (9, U (rshU (lshU a2 ((Ui r6).toNat : Int)) 32)), (2, U (lshU a2 ((Ui r6).toNat : Int))), (8, U (Ui r6))]) (L1 := fun z43 => []) (R1 := fun z43 => []) ?_ (fun z43 => ?_)
            · clear hc37
              refine .reg rfl <| .opp (P.mov .g1) rfl <| .opp (P.bin .t0 .k (BinV.geqU (x := s33.2) (y := 4294967296))) rfl <| .opp (P.mov .t0) rfl <| .split .k0 (fun c45 => ?_) (fun c45 => ?_)
              · rw [if_pos c45] at hj44
                refine .gno rfl .g0 rfl rfl <| .gno rfl .g0 rfl rfl <| .gno rfl .g0 rfl rfl <| .gno rfl .g0 rfl rfl <| .gno rfl .g0 rfl rfl <| .gno rfl .g0 rfl rfl <| .gno rfl .g0 rfl rfl <| .gno rfl .g0 rfl rfl <| .opp (P.pickT .t0 .k) rfl <| .nil ?_
                subst hj44
                exact .stj () (.cons Mm.m0 (.cons Mm.m1 (.cons Mm.m2 (.cons Mm.m3 (.cons Mm.m4 (.cons Mm.m5 (.cons Mm.m6 (.cons Mm.m7 (.cons Mm.m8 (.cons Mm.m9 .nil)))))))))) (.of .nil) .nil
              · rw [if_neg (ne_true_of_eq_false c45)] at hj44
                refine .gyes rfl .g0 <| .opp (P.mov .g2) rfl <| .gyes rfl .g1 <| .opp (P.mov .g7) rfl <| .gyes rfl .g2 <| .opp (P.bin .t1 .t0 (BinV.mulU (x := s33.2) (y := (lshU a2 ((Ui r6).toNat : Int)) &&& 4294967295))) rfl <| .gyes rfl .g1 <| .opp (P.mov .g2) rfl <| .gyes rfl .g2 <| .opp (P.bin .k .t0 (BinV.mulU (x := 4294967296) (y := s33.1))) rfl <| .gyes rfl .g2 <| .opp (P.mov .g7) rfl ?_
                refine .gyes rfl .g3 <| .opp (P.bin .t1 .t0 (BinV.addU (x := 4294967296 * s33.1) (y := (lshU a1 ((Ui r6).toNat : Int)) &&& 4294967295))) rfl <| .gyes rfl .g2 <| .opp (P.bin .t1 .t0 (BinV.gtrU (x := s33.2 * ((lshU a2 ((Ui r6).toNat : Int)) &&& 4294967295)) (y := (4294967296 * s33.1) + ((lshU a1 ((Ui r6).toNat : Int)) &&& 4294967295)))) rfl <| .opp (P.pickF .t1 .t0) rfl <| .nil ?_
                subst hj44
                exact .stj () (.cons Mm.m0 (.cons Mm.m1 (.cons Mm.m2 (.cons Mm.m3 (.cons Mm.m4 (.cons Mm.m5 (.cons Mm.m6 (.cons Mm.m7 (.cons Mm.m8 (.cons Mm.m9 .nil)))))))))) (.of .nil) .nil
            · clear hj44
              refine .cond .t0 (fun c46 => ?_) (fun c46 => ?_)
              · rw [if_pos c46] at hc37
                refine .skip <| .then <| .block <| .seq <| .reg rfl <| .opp (P.mov .g1) rfl <| .opp (P.bin .t0 .k (BinV.subU (x := s33.2) (y := 1))) rfl <| .drop .k2 <| .opp (P.asg .t0) rfl <| .nil <| .then <| .seq ?_
                refine .reg rfl <| .opp (P.mov .g1) rfl <| .opp (P.mov .g7) rfl <| .opp (P.bin .t1 .t0 (BinV.addU (x := s33.1) (y := rshU (lshU a2 ((Ui r6).toNat : Int)) 32))) rfl <| .drop .k2 <| .opp (P.asg .t0) rfl <| .nil <| .then <| .seq <| .reg rfl <| .opp (P.mov .g0) rfl <| .opp (P.bin .t0 .k (BinV.geqU (x := s33.1 + (rshU (lshU a2 ((Ui r6).toNat : Int)) 32)) (y := 4294967296))) rfl ?_
                refine .nil <| .then <| .cond .t0 (fun c47 => ?_) (fun c47 => ?_)
                · rw [if_pos c47] at hc37
                  refine .exit <| .outb rfl ?_
                  cases hc37
                  refine .told (γ := Unit) hj32 hn38 (fun (s33 : UInt64 × UInt64) _ => [(16, U s33.1), (18, U s33.2), (17, U (((((lshU a0 ((Ui r6).toNat : Int)) ||| (rshU a1 ((64 - (Ui r6)).toNat : Int))) * 4294967296) + (rshU (lshU a1 ((Ui r6).toNat : Int)) 32)) - (y9 * (lshU a2 ((Ui r6).toNat : Int))))), (15, U y9), (14, U ((lshU a1 ((Ui r6).toNat : Int)) &&& 4294967295)), (10, U ((lshU a2 ((Ui r6).toNat : Int)) &&& 4294967295)), (9, U (rshU (lshU a2 ((Ui r6).toNat : Int)) 32)), (2, U (lshU a2 ((Ui r6).toNat : Int))), (8, U (Ui r6))]) (fun (s33 : UInt64 × UInt64) _ => []) (fun (s33 : UInt64 × UInt64) _ => []) () (.cons Mm.m0 (.cons Mm.m1 (.cons Mm.m2 (.cons Mm.m3 (.cons Mm.m4 (.cons Mm.m5 (.cons Mm.m6 (.cons Mm.m7 (.cons Mm.m8 .nil))))))))) (.of .nil) .nil (fun s33 _ hj32' => ?_)
                  replace hj32 := hj32'
                  refine .thx <| .inb ?_
                  cases hj32
                  exact .stj () (.cons Mm.m1 (.cons Mm.m2 (.cons Mm.m3 (.cons Mm.m4 (.cons Mm.m7 (.cons Mm.m8 .nil)))))) (.of .nil) .nil
                · rw [if_neg (ne_true_of_eq_false c47)] at hc37
                  refine .skip <| .inn ?_
                  cases hc37
                  obtain ⟨m48, hm49, hn38⟩ := hn38
                  exact .rdW ((s33.1 + (rshU (lshU a2 ((Ui r6).toNat : Int)) 32), s33.2 - 1)) () hm49 hn38 (.cons Mm.m0 (.cons Mm.m1 (.cons Mm.m2 (.cons Mm.m3 (.cons Mm.m4 (.cons Mm.m5 (.cons Mm.m6 (.cons Mm.m7 (.cons Mm.m8 .nil))))))))) (.of .nil) .nil
              · rw [if_neg (ne_true_of_eq_false c46)] at hc37
                refine .exit <| .thx ?_
                cases hc37
                refine .told (γ := Unit) hj32 hn38 (fun (s33 : UInt64 × UInt64) _ => [(16, U s33.1), (18, U s33.2), (17, U (((((lshU a0 ((Ui r6).toNat : Int)) ||| (rshU a1 ((64 - (Ui r6)).toNat : Int))) * 4294967296) + (rshU (lshU a1 ((Ui r6).toNat : Int)) 32)) - (y9 * (lshU a2 ((Ui r6).toNat : Int))))), (15, U y9), (14, U ((lshU a1 ((Ui r6).toNat : Int)) &&& 4294967295)), (10, U ((lshU a2 ((Ui r6).toNat : Int)) &&& 4294967295)), (9, U (rshU (lshU a2 ((Ui r6).toNat : Int)) 32)), (2, U (lshU a2 ((Ui r6).toNat : Int))), (8, U (Ui r6))]) (fun (s33 : UInt64 × UInt64) _ => []) (fun (s33 : UInt64 × UInt64) _ => []) () (.cons Mm.m0 (.cons Mm.m1 (.cons Mm.m2 (.cons Mm.m3 (.cons Mm.m4 (.cons Mm.m5 (.cons Mm.m6 (.cons Mm.m7 (.cons Mm.m8 .nil))))))))) (.of .nil) .nil (fun s33 _ hj32' => ?_)
                replace hj32 := hj32'
                refine .thx <| .inb ?_
                cases hj32
                exact .stj () (.cons Mm.m1 (.cons Mm.m2 (.cons Mm.m3 (.cons Mm.m4 (.cons Mm.m7 (.cons Mm.m8 .nil)))))) (.of .nil) .nil
          · clear hj32
            refine .seq <| .reg rfl <| .opp (P.mov .t2) rfl <| .opp (P.bin .t0 .k (BinV.mulU (x := y9) (y := 4294967296))) rfl <| .opp (P.mov .g1) rfl <| .opp (P.bin .t1 .t0 (BinV.addU (x := y9 * 4294967296) (y := y30))) rfl <| .opp (P.mov .t2) rfl <| .opp (P.bin .t0 .k (BinV.mulU (x := ((((lshU a0 ((Ui r6).toNat : Int)) ||| (rshU a1 ((64 - (Ui r6)).toNat : Int))) * 4294967296) + (rshU (lshU a1 ((Ui r6).toNat : Int)) 32)) - (y9 * (lshU a2 ((Ui r6).toNat : Int)))) (y := 4294967296))) rfl <| .opp (P.mov .t3) rfl <| .opp (P.bin .t1 .t0 (BinV.addU (x := (((((lshU a0 ((Ui r6).toNat : Int)) ||| (rshU a1 ((64 - (Ui r6)).toNat : Int))) * 4294967296) + (rshU (lshU a1 ((Ui r6).toNat : Int)) 32)) - (y9 * (lshU a2 ((Ui r6).toNat : Int)))) * 4294967296) (y := (lshU a1 ((Ui r6).toNat : Int)) &&& 4294967295))) rfl <| .opp (P.mov .t2) rfl <| .opp (P.mov .t3) rfl ?_
            refine .opp (P.bin .t1 .t0 (BinV.mulU (x := y30) (y := lshU a2 ((Ui r6).toNat : Int)))) rfl <| .opp (P.bin .t1 .t0 (BinV.subU (x := ((((((lshU a0 ((Ui r6).toNat : Int)) ||| (rshU a1 ((64 - (Ui r6)).toNat : Int))) * 4294967296) + (rshU (lshU a1 ((Ui r6).toNat : Int)) 32)) - (y9 * (lshU a2 ((Ui r6).toNat : Int)))) * 4294967296) + ((lshU a1 ((Ui r6).toNat : Int)) &&& 4294967295)) (y := y30 * (lshU a2 ((Ui r6).toNat : Int))))) rfl <| .opp (P.mov .t2) rfl <| .opp (P.bin .t1 .t0 (BinV.shrU (x := (((((((lshU a0 ((Ui r6).toNat : Int)) ||| (rshU a1 ((64 - (Ui r6)).toNat : Int))) * 4294967296) + (rshU (lshU a1 ((Ui r6).toNat : Int)) 32)) - (y9 * (lshU a2 ((Ui r6).toNat : Int)))) * 4294967296) + ((lshU a1 ((Ui r6).toNat : Int)) &&& 4294967295)) - (y30 * (lshU a2 ((Ui r6).toNat : Int)))) (n := ((Ui r6).toNat : Int)) (Int.natCast_nonneg _))) rfl <| .opp (P.asg .t1) rfl <| .opp (P.asg .t1) rfl <| .nil <| .then <| .ret ?_
            cases h
            exact .finw () (.r2 rfl (.tmp .g1) (.tmp .g0)) trivial (Ls.of .nil) .nil
attribute [irreducible] bits_Div64
noncomputable def wide_Div (a0 : api_Wide) (a1 : UInt64) : Option (api_Wide × UInt64 × Bool) :=
  if (decide (a1 = 0)) = true then (some (⟨0, 0, 0, 0⟩, 0, false)) else (Option.bind (bits_Div64 0 a0.a3 a1) fun r15 => Option.bind (bits_Div64 r15.2 a0.a2 a1) fun r19 => Option.bind (bits_Div64 r19.2 a0.a1 a1) fun r23 => Option.bind (bits_Div64 r23.2 a0.a0 a1) fun r27 => some (⟨r27.1, r23.1, r19.1, r15.1⟩, r27.2, true))
set_option maxRecDepth 20000 in
set_option maxHeartbeats 8000000 in
theorem S_wide_Div (a0 : api_Wide) (a1 : UInt64) (r : api_Wide × UInt64 × Bool) (h : wide_Div a0 a1 = some r) :
    SpecF Tryz.prog 53 [Ag (api_Wide.cs a0), U a1] [] [] (fun z : Unit => True) (fun z => Tu [Ag (api_Wide.cs r.1), U r.2.1, Bo r.2.2]) (fun z M =>  M) (fun z M =>  M) := by
  refine .of func53 rfl ntmps53 rfl fun w0 D0 G0 => ?_
  unfold wide_Div at h
  refine .seq <| .reg rfl <| .opx (X.box (cs := (api_Wide.cs a0)) .t0 rfl) rfl fun b1 => .opx (X.box (cs := [U a1]) .t1 rfl) rfl fun b2 => .opx (X.alc (cs := (api_Wide.cs ⟨0, 0, 0, 0⟩)) zeroValue77 rfl) rfl fun b3 => .op0 (OpP.toV (P.asg .k)) rfl <| .op0 (OpP.toV (P.asg .k)) rfl <| .nil <| .then <| .seq <| .seq <| .reg rfl ?_
  refine .op (V.ld (v := U a1) .g1 .k1 (.one isAgg75 rfl)) rfl <| .opp (P.bin .t0 .k (BinV.eqlU (x := a1) (y := 0))) rfl <| .nil <| .then <| .cond .t0 (fun c4 => ?_) (fun c4 => ?_)
  · rw [if_pos c4] at h
    refine .seq <| .reg rfl <| .opp (P.bld (v := Ag (api_Wide.cs ⟨0, 0, 0, 0⟩)) .nil (bld_runA zeroValue77 runUnderlying77 sizeOf75 (by kernel_rfl))) rfl <| .opg (G.str .t0 .g0 .k0 (.mk (cs' := (api_Wide.cs ⟨0, 0, 0, 0⟩)) sizeOf77 rfl rfl rfl rfl)) rfl fun _ _ => .opp (P.asg .k) rfl <| .opp (P.asg .k) rfl <| .nil <| .then <| .ret <| .thr ?_
    cases h
    exact .finw () (.r3 rfl (.cell .g2 .k0 (.agg isAgg77 sizeOf77 rfl rfl)) (.tmp .g1) (.tmp .g0)) trivial (Ls.of .nil) .nil
  · rw [if_neg (ne_true_of_eq_false c4)] at h
    refine .skip <| .then <| .seq <| .reg rfl <| .opx (X.alc (cs := [U 0]) zeroValue75 rfl) rfl fun b5 => .nil <| .then <| .seq <| .seq <| .reg rfl <| .opp (P.sla .g3 runUnderlying77 sizeOf75) rfl <| .opg (G.call call104 (.cons .t0 .nil) (S_slices_Backward_uint64 (.slice (some ⟨b1, 0, none⟩) 4 4) .mk _ rfl) .nil .nil (fun _ _ => rfl) (fun _ _ => rfl) rfl) rfl fun b6 _ => ?_
    refine .nil <| .then <| .block <| .rangeF rfl .t0 call167 func167 rfl ntmps167 rfl fun a7 O8 D9 l10 ha11 hO12 => .seq <| .reg rfl <| .op (V.ld (v := (.slice (some ⟨b1, 0, none⟩) 4 4)) .g1 .k2 (.one isAgg209 rfl)) rfl <| .opp (P.lena .t0 runUnderlying209) rfl <| .opp (P.bin (v := N 3) .t0 .k (.subc (by decide))) rfl <| .opp (P.asg .t0) rfl <| .nil <| .then ?_
    refine .block <| .rounds 5 <| .rd <| .seq <| .seq <| .reg rfl <| .opp (P.mov .g0) rfl <| .opp (P.bin (v := Bo true) .t0 .k (BinV.geq.boolc (by decide))) rfl <| .nil <| .then <| .condT .t0 <| .skip ?_
    refine .then <| .seq <| .block <| .seq <| .regY 6 rfl <| .opp (P.mov .g1) rfl <| .opp (P.mov .g1) rfl <| .op (V.ld (v := (.slice (some ⟨b1, 0, none⟩) 4 4)) .g4 .k2 (.one isAgg209 rfl)) rfl <| .opp (P.mov .g3) rfl <| .opp (P.ixa (i := 3) .t0 rfl .t0 runUnderlying209 sizeOf75 (by decide) rfl) rfl <| .op (V.ld (v := U a0.a3) .t0 .k6 (.one isAgg75 rfl)) rfl <| .nil ?_
    refine .then <| .yield (ps := [15, 16]) .t2 (.cons .t1 (.cons .t0 .nil)) hO12 .k0 rfl rfl (by decide) fun a13 ha14 => .seq <| .reg rfl <| .opp (P.asg .t0) rfl <| .nil <| .then <| .reg rfl <| .opp (P.asg .t1) rfl <| .nil <| .then <| .bg rfl hO12 .k0 ?_
    refine .block <| .reg rfl <| .opp (P.mov .t1) rfl <| .op (V.ld (v := U 0) .g2 .k3 (.one isAgg75 rfl)) rfl <| .opp (P.mov .t2) rfl <| .op (V.ld (v := U a1) .t5 .k5 (.one isAgg75 rfl)) rfl ?_
    obtain ⟨r15, hr16, h⟩ := bnd_eq h
    refine .opg (G.call call105 (.cons .t2 (.cons .t1 (.cons .t0 .nil))) (S_bits_Div64 0 a0.a3 a1 r15 hr16) .nil .nil (fun _ _ => rfl) (fun _ _ => rfl) rfl) rfl fun _ _ => .opp (P.mov .t0) rfl <| .opp (P.ext (v := U r15.1) .g0 rfl) rfl <| .opp (P.ext (v := U r15.2) .t1 rfl) rfl <| .opp (P.iac (i := 3) .t2 rfl .t4 runUnderlying77 sizeOf75 rfl rfl) rfl <| .opg (G.str .t2 .t0 .k6 (.mk (cs' := (api_Wide.cs ⟨a0.a0, a0.a1, a0.a2, r15.1⟩)) sizeOf75 rfl rfl rfl rfl)) rfl fun _ _ => .opg (G.str .t0 .t0 .k4 (.mk (cs' := [U r15.2]) sizeOf75 rfl rfl rfl rfl)) rfl fun _ _ => .nil <| .inn <| .rnorm rfl ⟨rfl, rfl, rfl⟩ ha14 hO12 .k2 rfl <| .inL rfl <| .opp (P.not .t0) rfl ?_
    refine .nil <| .then <| .condF .t0 <| .skip <| .inn <| .then <| .reg rfl <| .opp (P.mov .g0) rfl <| .opp (P.bin (v := N 2) .t0 .k (.subc (by decide))) rfl <| .drop .k1 <| .opp (P.asg .t0) rfl <| .nil ?_
    refine .then <| .rd <| .seq <| .seq <| .reg rfl <| .opp (P.mov .g0) rfl <| .opp (P.bin (v := Bo true) .t0 .k (BinV.geq.boolc (by decide))) rfl <| .nil <| .then <| .condT .t0 <| .skip <| .then ?_
    refine .seq <| .block <| .seq <| .regY 6 rfl <| .opp (P.mov .g1) rfl <| .opp (P.mov .g1) rfl <| .op (V.ld (v := (.slice (some ⟨b1, 0, none⟩) 4 4)) .g4 .k4 (.one isAgg209 rfl)) rfl <| .opp (P.mov .g3) rfl <| .opp (P.ixa (i := 2) .t0 rfl .t0 runUnderlying209 sizeOf75 (by decide) rfl) rfl <| .op (V.ld (v := U a0.a2) .t0 .k2 (.one isAgg75 rfl)) rfl <| .nil <| .then ?_
    refine .yield (ps := [15, 16]) .t2 (.cons .t1 (.cons .t0 .nil)) hO12 .k0 rfl rfl (by decide) fun a17 ha18 => .seq <| .reg rfl <| .opp (P.asg .t0) rfl <| .nil <| .then <| .reg rfl <| .opp (P.asg .t1) rfl <| .nil <| .then <| .bg rfl hO12 .k0 <| .block ?_
    refine .reg rfl <| .opp (P.mov .t1) rfl <| .op (V.ld (v := U r15.2) .g2 .k1 (.one isAgg75 rfl)) rfl <| .opp (P.mov .t2) rfl <| .op (V.ld (v := U a1) .t5 .k6 (.one isAgg75 rfl)) rfl ?_
    obtain ⟨r19, hr20, h⟩ := bnd_eq h
    refine .opg (G.call call105 (.cons .t2 (.cons .t1 (.cons .t0 .nil))) (S_bits_Div64 r15.2 a0.a2 a1 r19 hr20) .nil .nil (fun _ _ => rfl) (fun _ _ => rfl) rfl) rfl fun _ _ => .opp (P.mov .t0) rfl <| .opp (P.ext (v := U r19.1) .g0 rfl) rfl <| .opp (P.ext (v := U r19.2) .t1 rfl) rfl <| .opp (P.iac (i := 2) .t2 rfl .t4 runUnderlying77 sizeOf75 rfl rfl) rfl <| .opg (G.str .t2 .t0 .k2 (.mk (cs' := (api_Wide.cs ⟨a0.a0, a0.a1, r19.1, r15.1⟩)) sizeOf75 rfl rfl rfl rfl)) rfl fun _ _ => .opg (G.str .t0 .t0 .k2 (.mk (cs' := [U r19.2]) sizeOf75 rfl rfl rfl rfl)) rfl fun _ _ => .nil <| .inn <| .rnorm rfl ⟨rfl, rfl, rfl⟩ ha18 hO12 .k2 rfl <| .inL rfl <| .opp (P.not .t0) rfl ?_
    refine .nil <| .then <| .condF .t0 <| .skip <| .inn <| .then <| .reg rfl <| .opp (P.mov .g0) rfl <| .opp (P.bin (v := N 1) .t0 .k (.subc (by decide))) rfl <| .drop .k1 <| .opp (P.asg .t0) rfl <| .nil ?_
    refine .then <| .rd <| .seq <| .seq <| .reg rfl <| .opp (P.mov .g0) rfl <| .opp (P.bin (v := Bo true) .t0 .k (BinV.geq.boolc (by decide))) rfl <| .nil <| .then <| .condT .t0 <| .skip <| .then ?_
    refine .seq <| .block <| .seq <| .regY 6 rfl <| .opp (P.mov .g1) rfl <| .opp (P.mov .g1) rfl <| .op (V.ld (v := (.slice (some ⟨b1, 0, none⟩) 4 4)) .g4 .k4 (.one isAgg209 rfl)) rfl <| .opp (P.mov .g3) rfl <| .opp (P.ixa (i := 1) .t0 rfl .t0 runUnderlying209 sizeOf75 (by decide) rfl) rfl <| .op (V.ld (v := U a0.a1) .t0 .k2 (.one isAgg75 rfl)) rfl <| .nil <| .then ?_
    refine .yield (ps := [15, 16]) .t2 (.cons .t1 (.cons .t0 .nil)) hO12 .k0 rfl rfl (by decide) fun a21 ha22 => .seq <| .reg rfl <| .opp (P.asg .t0) rfl <| .nil <| .then <| .reg rfl <| .opp (P.asg .t1) rfl <| .nil <| .then <| .bg rfl hO12 .k0 <| .block ?_
    refine .reg rfl <| .opp (P.mov .t1) rfl <| .op (V.ld (v := U r19.2) .g2 .k1 (.one isAgg75 rfl)) rfl <| .opp (P.mov .t2) rfl <| .op (V.ld (v := U a1) .t5 .k6 (.one isAgg75 rfl)) rfl ?_
    obtain ⟨r23, hr24, h⟩ := bnd_eq h
    refine .opg (G.call call105 (.cons .t2 (.cons .t1 (.cons .t0 .nil))) (S_bits_Div64 r19.2 a0.a1 a1 r23 hr24) .nil .nil (fun _ _ => rfl) (fun _ _ => rfl) rfl) rfl fun _ _ => .opp (P.mov .t0) rfl <| .opp (P.ext (v := U r23.1) .g0 rfl) rfl <| .opp (P.ext (v := U r23.2) .t1 rfl) rfl <| .opp (P.iac (i := 1) .t2 rfl .t4 runUnderlying77 sizeOf75 rfl rfl) rfl <| .opg (G.str .t2 .t0 .k2 (.mk (cs' := (api_Wide.cs ⟨a0.a0, r23.1, r19.1, r15.1⟩)) sizeOf75 rfl rfl rfl rfl)) rfl fun _ _ => .opg (G.str .t0 .t0 .k2 (.mk (cs' := [U r23.2]) sizeOf75 rfl rfl rfl rfl)) rfl fun _ _ => .nil <| .inn <| .rnorm rfl ⟨rfl, rfl, rfl⟩ ha22 hO12 .k2 rfl <| .inL rfl <| .opp (P.not .t0) rfl ?_
    refine .nil <| .then <| .condF .t0 <| .skip <| .inn <| .then <| .reg rfl <| .opp (P.mov .g0) rfl <| .opp (P.bin (v := N 0) .t0 .k (.subc (by decide))) rfl <| .drop .k1 <| .opp (P.asg .t0) rfl <| .nil ?_
    refine .then <| .rd <| .seq <| .seq <| .reg rfl <| .opp (P.mov .g0) rfl <| .opp (P.bin (v := Bo true) .t0 .k (BinV.geq.boolc (by decide))) rfl <| .nil <| .then <| .condT .t0 <| .skip <| .then ?_
    refine .seq <| .block <| .seq <| .regY 6 rfl <| .opp (P.mov .g1) rfl <| .opp (P.mov .g1) rfl <| .op (V.ld (v := (.slice (some ⟨b1, 0, none⟩) 4 4)) .g4 .k4 (.one isAgg209 rfl)) rfl <| .opp (P.mov .g3) rfl <| .opp (P.ixa (i := 0) .t0 rfl .t0 runUnderlying209 sizeOf75 (by decide) rfl) rfl <| .op (V.ld (v := U a0.a0) .t0 .k2 (.one isAgg75 rfl)) rfl <| .nil <| .then ?_
    refine .yield (ps := [15, 16]) .t2 (.cons .t1 (.cons .t0 .nil)) hO12 .k0 rfl rfl (by decide) fun a25 ha26 => .seq <| .reg rfl <| .opp (P.asg .t0) rfl <| .nil <| .then <| .reg rfl <| .opp (P.asg .t1) rfl <| .nil <| .then <| .bg rfl hO12 .k0 <| .block ?_
    refine .reg rfl <| .opp (P.mov .t1) rfl <| .op (V.ld (v := U r23.2) .g2 .k1 (.one isAgg75 rfl)) rfl <| .opp (P.mov .t2) rfl <| .op (V.ld (v := U a1) .t5 .k6 (.one isAgg75 rfl)) rfl ?_
    obtain ⟨r27, hr28, h⟩ := bnd_eq h
    refine .opg (G.call call105 (.cons .t2 (.cons .t1 (.cons .t0 .nil))) (S_bits_Div64 r23.2 a0.a0 a1 r27 hr28) .nil .nil (fun _ _ => rfl) (fun _ _ => rfl) rfl) rfl fun _ _ => .opp (P.mov .t0) rfl <| .opp (P.ext (v := U r27.1) .g0 rfl) rfl <| .opp (P.ext (v := U r27.2) .t1 rfl) rfl <| .opp (P.iac (i := 0) .t2 rfl .t4 runUnderlying77 sizeOf75 rfl rfl) rfl <| .opg (G.str .t2 .t0 .k2 (.mk (cs' := (api_Wide.cs ⟨r27.1, r23.1, r19.1, r15.1⟩)) sizeOf75 rfl rfl rfl rfl)) rfl fun _ _ => .opg (G.str .t0 .t0 .k2 (.mk (cs' := [U r27.2]) sizeOf75 rfl rfl rfl rfl)) rfl fun _ _ => .nil <| .inn <| .rnorm rfl ⟨rfl, rfl, rfl⟩ ha26 hO12 .k2 rfl <| .inL rfl <| .opp (P.not .t0) rfl ?_
    refine .nil <| .then <| .condF .t0 <| .skip <| .inn <| .then <| .reg rfl <| .opp (P.mov .g0) rfl <| .opp (P.bin (v := N (-1)) .t0 .k (.subc (by decide))) rfl <| .drop .k1 <| .opp (P.asg .t0) rfl <| .nil ?_
    refine .then <| .rd <| .seq <| .seq <| .reg rfl <| .opp (P.mov .g0) rfl <| .opp (P.bin (v := Bo false) .t0 .k (BinV.geq.boolc (by decide))) rfl <| .nil <| .then <| .condF .t0 <| .exit <| .thx ?_
    refine .thx <| .inb <| .rfinn ha11 hO12 .k0 rfl <| .inn <| .then <| .seq <| .drawl [blk b5 75 [U r27.2], blk b1 77 (api_Wide.cs ⟨r27.1, r23.1, r19.1, r15.1⟩), obj D9 (.deferred (some [])), blk b6 209 [(.slice (some ⟨b1, 0, none⟩) 4 4)], blk b2 75 [U a1]] [] (Ls.of (.cons .k0 (.cons .k0 (.cons .k0 (.cons .k0 (.cons .k1 .nil)))))) Rs.nil 5 (.on 0 .ld (.on 1 .ld (.on 2 .go (.on 3 .go (.on 4 .go .nl))))) follows_mixed (.thn .body) (by kernel_rfl) <| .dld rfl (.n rfl) (V.ld (v := Ag (api_Wide.cs ⟨r27.1, r23.1, r19.1, r15.1⟩)) .t3 .k1 (.agg isAgg77 sizeOf77 rfl rfl)) (fun _ h => (h.imp (Ls.of (.cons .k0 (.cons .k0 (.cons .k0 (.cons .k0 (.cons .k1 .nil))))))).ro Rs.nil) rfl rfl <| .dld rfl (.n rfl) (V.ld (v := U r27.2) .t1 .k0 (.one isAgg75 rfl)) (fun _ h => (h.imp (Ls.of (.cons .k0 (.cons .k0 (.cons .k0 (.cons .k0 (.cons .k1 .nil))))))).ro Rs.nil) rfl rfl <| .dgo rfl (.n rfl) (G.str .t1 .g1 .k4 (.mk (cs' := (api_Wide.cs ⟨r27.1, r23.1, r19.1, r15.1⟩)) sizeOf77 rfl rfl rfl rfl)) (.inr fun _ _ _ h => (h.imp (Ls.of (.cons .k1 (.cons .k1 (.cons .k1 (.cons .k1 (.cons .k1 .nil))))))).ro Rs.nil) fun _ _ => .dgo rfl (.n rfl) (OpV.g (OpP.toV (P.asg .t0)) rfl) (.inr fun _ _ _ h => (h.imp (Ls.of (.cons .k1 (.cons .k1 (.cons .k1 (.cons .k1 (.cons .k1 .nil))))))).ro Rs.nil) fun _ _ => .dgo rfl (.n rfl) (OpV.g (OpP.toV (P.asg .k)) rfl) (.inr fun _ _ _ h => (h.imp (Ls.of (.cons .k1 (.cons .k1 (.cons .k1 (.cons .k1 (.cons .k1 .nil))))))).ro Rs.nil) fun _ _ => ?_
    refine .dnil <| .then <| .ret ?_
    cases h
    exact .finm () .k3 (.r3 rfl (.cell .g2 .k0 (.agg isAgg77 sizeOf77 rfl rfl)) (.tmp .g1) (.tmp .g0)) trivial (Ls.of .nil) .nil
attribute [irreducible] wide_Div
noncomputable def text_Put (a0 : api_Wide) : Option (ByteArray) :=
  Option.bind (loopW (fun (s2 : ByteArray × api_Wide) => Option.bind (wide_Div s2.2 10) fun r11 => grd (okS (⟨#[48, 49, 50, 51, 52, 53, 54, 55, 56, 57, 97, 98, 99, 100, 101, 102]⟩ : ByteArray).size (some (r11.2.1.toNat : Int)) (some ((r11.2.1 + 1).toNat : Int)) none) <| grd (((⟨#[48, 49, 50, 51, 52, 53, 54, 55, 56, 57, 97, 98, 99, 100, 101, 102]⟩ : ByteArray).extract r11.2.1.toNat (r11.2.1 + 1).toNat).size + s2.1.size ≤ 9223372036854775807) <| if (decide ((r11.1 : api_Wide) = (⟨0, 0, 0, 0⟩ : api_Wide))) = true then (Option.map Ct.rt (some (((⟨#[48, 49, 50, 51, 52, 53, 54, 55, 56, 57, 97, 98, 99, 100, 101, 102]⟩ : ByteArray).extract r11.2.1.toNat (r11.2.1 + 1).toNat) ++ s2.1))) else (some (.nx ((((⟨#[48, 49, 50, 51, 52, 53, 54, 55, 56, 57, 97, 98, 99, 100, 101, 102]⟩ : ByteArray).extract r11.2.1.toNat (r11.2.1 + 1).toNat) ++ s2.1, r11.1))))) (⟨#[]⟩, a0)) fun o4 => Lo.on o4 fun (s2 : ByteArray × api_Wide) => none
set_option maxRecDepth 20000 in
set_option maxHeartbeats 8000000 in
theorem S_text_Put (a0 : api_Wide) (r : ByteArray) (h : text_Put a0 = some r) :
    SpecF Tryz.prog 27 [Ag (api_Wide.cs a0)] [] [] (fun z : Unit => True) (fun z => .string r) (fun z M =>  M) (fun z M =>  M) := by
  refine .of func27 rfl ntmps27 rfl fun w0 D0 G0 => ?_
  unfold text_Put at h
  refine .seq <| .reg rfl <| .opx (X.box (cs := (api_Wide.cs a0)) .t0 rfl) rfl fun b1 => .op0 (OpP.toV (P.asg .k)) rfl <| .nil <| .then <| .seq <| .reg rfl <| .opp (P.asg .k) rfl <| .nil <| .then <| .block ?_
  obtain ⟨o4, ho5, h⟩ := bnd_eq h
  refine .loopW (γ := Unit) (fun (s2 : ByteArray × api_Wide) z3 => [(3, .string s2.1), (1, pt b1 0)]) (fun (s2 : ByteArray × api_Wide) z3 => [blk b1 77 (api_Wide.cs s2.2)]) (fun (s2 : ByteArray × api_Wide) z3 => []) () ho5 (.cons Mm.m0 (.cons Mm.m1 .nil)) (.of (.cons .k0 .nil)) .nil (fun n10 s2 z3 hr8 => ?_)
  obtain ⟨ct9, hc6, hn7⟩ := loopK_at hr8
  refine .block <| .seq <| .reg rfl <| .op (V.ld (v := Ag (api_Wide.cs s2.2)) .g1 .k0 (.agg isAgg77 sizeOf77 rfl rfl)) rfl ?_
  obtain ⟨r11, hr12, hc6⟩ := bnd_eq hc6
  refine .opg (G.call call53 (.cons .t0 (.cons .k .nil)) (S_wide_Div s2.2 10 r11 hr12) .nil .nil (fun _ _ => rfl) (fun _ _ => rfl) rfl) rfl fun _ _ => .opp (P.mov .t0) rfl <| .opp (P.ext (v := Ag (api_Wide.cs r11.1)) .g0 rfl) rfl <| .opp (P.ext (v := U r11.2.1) .g1 rfl) rfl <| .opp (P.ext (v := Bo r11.2.2) .t2 rfl) rfl <| .opx (X.alc (cs := (api_Wide.cs ⟨0, 0, 0, 0⟩)) zeroValue77 rfl) rfl fun b13 => .opg (G.str .t3 .g0 .k0 (.mk (cs' := (api_Wide.cs r11.1)) sizeOf77 rfl rfl rfl rfl)) rfl fun _ _ => .opp (P.asg .t2) rfl <| .op0 (OpP.toV (P.asg .t2)) rfl <| .nil <| .then <| .seq ?_
  refine .reg rfl <| .opp (P.mov .g0) rfl <| .opp (P.mov .t1) rfl <| .opp (P.bin .t0 .k (BinV.addU (x := r11.2.1) (y := 1))) rfl ?_
  obtain ⟨hb14, hc6⟩ := grd_eq hc6
  refine .opp (P.slstU (x := r11.2.1) (y := r11.2.1 + 1) .k .t1 .t0 runUnderlying9 hb14) rfl <| .opp (P.mov .g2) rfl ?_
  obtain ⟨hb15, hc6⟩ := grd_eq hc6
  refine .opp (P.bin .t1 .t0 (.str_add hb15)) rfl <| .drop .k2 <| .opp (P.asg .t0) rfl <| .nil <| .then <| .seq <| .seq <| .reg rfl <| .op (V.ld (v := Ag (api_Wide.cs r11.1)) .g1 .k0 (.agg isAgg77 sizeOf77 rfl rfl)) rfl <| .opp (P.bld (v := Ag (api_Wide.cs ⟨0, 0, 0, 0⟩)) .nil (bld_runA zeroValue77 runUnderlying77 sizeOf75 (by kernel_rfl))) rfl <| .opp (P.bin .t1 .t0 (eq_77_eql _ _)) rfl <| .nil ?_
  refine .then <| .cond .t0 (fun c16 => ?_) (fun c16 => ?_)
  · rw [if_pos c16] at hc6
    refine .seq <| .reg rfl <| .opp (P.mov .t0) rfl <| .opp (P.asg .t0) rfl <| .nil <| .then <| .ret <| .thr <| .inr ?_
    obtain ⟨x17, hx18, rfl⟩ := map_rt hc6
    obtain rfl := hn7
    obtain rfl := rt_on h
    refine .thr <| .inr ?_
    cases hx18
    exact .finw () (.r1 rfl (.tmp .g0)) trivial (Ls.of .nil) .nil
  · rw [if_neg (ne_true_of_eq_false c16)] at hc6
    refine .skip <| .then <| .reg rfl <| .op (V.ld (v := Ag (api_Wide.cs r11.1)) .t1 .k0 (.agg isAgg77 sizeOf77 rfl rfl)) rfl <| .opg (G.str .t0 .g1 .k1 (.mk (cs' := (api_Wide.cs r11.1)) sizeOf77 rfl rfl rfl rfl)) rfl fun _ _ => .nil <| .inn ?_
    cases hc6
    obtain ⟨m19, hm20, hn7⟩ := hn7
    exact .rdW ((((⟨#[48, 49, 50, 51, 52, 53, 54, 55, 56, 57, 97, 98, 99, 100, 101, 102]⟩ : ByteArray).extract r11.2.1.toNat (r11.2.1 + 1).toNat) ++ s2.1, r11.1)) () hm20 hn7 (.cons Mm.m0 (.cons Mm.m1 .nil)) (.of (.cons .k0 .nil)) .nil
attribute [irreducible] text_Put
noncomputable def narrowslaw34_decimal (a0 : Int) : Option (ByteArray) :=
  if (decide (a0 < 0)) = true then (Option.bind (text_Put (⟨(Ui (IntKind.i64.wrap (0 - (IntKind.i64.wrap (a0 + 1))))) + 1, 0, 0, 0⟩ : api_Wide)) fun r2 => grd ((⟨#[45]⟩ : ByteArray).size + r2.size ≤ 9223372036854775807) <| some ((⟨#[45]⟩ : ByteArray) ++ r2)) else (Option.bind (text_Put (⟨Ui a0, 0, 0, 0⟩ : api_Wide)) fun r5 => some r5)
set_option maxRecDepth 20000 in
set_option maxHeartbeats 8000000 in
theorem S_narrowslaw34_decimal (a0 : Int) (r : ByteArray) (h : narrowslaw34_decimal a0 = some r) :
    SpecF Tryz.prog 11 [N a0] [] [] (fun z : Unit => True) (fun z => .string r) (fun z M =>  M) (fun z M =>  M) := by
  refine .of func11 rfl ntmps11 rfl fun w0 D0 G0 => ?_
  unfold narrowslaw34_decimal at h
  refine .seq <| .reg rfl <| .op0 (OpP.toV (P.asg .k)) rfl <| .nil <| .then <| .seq <| .seq <| .reg rfl <| .opp (P.mov .g0) rfl <| .opp (P.bin .t0 .k .lss) rfl <| .nil <| .then ?_
  refine .cond .t0 (fun c1 => ?_) (fun c1 => ?_)
  · rw [if_pos c1] at h
    refine .seq <| .reg rfl <| .opp (P.mov .t0) rfl <| .opp (P.bin .t0 .k .add) rfl <| .opp (P.neg .t0) rfl <| .opp (P.cnvU (m := IntKind.i64.wrap (0 - (IntKind.i64.wrap (a0 + 1)))) .t0 runUnderlying3 runUnderlying75) rfl <| .opp (P.bin .t0 .k (BinV.addU (x := Ui (IntKind.i64.wrap (0 - (IntKind.i64.wrap (a0 + 1))))) (y := 1))) rfl <| .opp (P.bld (v := Ag (api_Wide.cs ⟨(Ui (IntKind.i64.wrap (0 - (IntKind.i64.wrap (a0 + 1))))) + 1, 0, 0, 0⟩)) (.cons .t0 .nil) (bld_runA zeroValue77 runUnderlying77 sizeOf75 (by kernel_rfl))) rfl ?_
    obtain ⟨r2, hr3, h⟩ := bnd_eq h
    refine .opg (G.call call27 (.cons .t0 .nil) (S_text_Put (⟨(Ui (IntKind.i64.wrap (0 - (IntKind.i64.wrap (a0 + 1))))) + 1, 0, 0, 0⟩ : api_Wide) r2 hr3) .nil .nil (fun _ _ => rfl) (fun _ _ => rfl) rfl) rfl fun _ _ => ?_
    obtain ⟨hb4, h⟩ := grd_eq h
    refine .opp (P.bin .k .t0 (.str_add hb4)) rfl <| .opp (P.asg .t0) rfl <| .nil <| .then <| .ret <| .thr ?_
    cases h
    exact .finw () (.r1 rfl (.tmp .g0)) trivial (Ls.of .nil) .nil
  · rw [if_neg (ne_true_of_eq_false c1)] at h
    refine .skip <| .then <| .seq <| .reg rfl <| .opp (P.mov .t0) rfl <| .opp (P.cnvU (m := a0) .t0 runUnderlying3 runUnderlying75) rfl <| .opp (P.bld (v := Ag (api_Wide.cs ⟨Ui a0, 0, 0, 0⟩)) (.cons .t0 .nil) (bld_runA zeroValue77 runUnderlying77 sizeOf75 (by kernel_rfl))) rfl ?_
    obtain ⟨r5, hr6, h⟩ := bnd_eq h
    refine .opg (G.call call27 (.cons .t0 .nil) (S_text_Put (⟨Ui a0, 0, 0, 0⟩ : api_Wide) r5 hr6) .nil .nil (fun _ _ => rfl) (fun _ _ => rfl) rfl) rfl fun _ _ => .opp (P.asg .t0) rfl <| .nil <| .then <| .ret ?_
    cases h
    exact .finw () (.r1 rfl (.tmp .g0)) trivial (Ls.of .nil) .nil
attribute [irreducible] narrowslaw34_decimal
noncomputable def wide_Of (a0 : UInt64) : api_Wide :=
  ⟨a0, 0, 0, 0⟩
set_option maxRecDepth 20000 in
set_option maxHeartbeats 8000000 in
theorem S_wide_Of (a0 : UInt64) (r : api_Wide) (h : wide_Of a0 = r) :
    SpecF Tryz.prog 38 [U a0] [] [] (fun z : Unit => True) (fun z => Ag (api_Wide.cs r)) (fun z M =>  M) (fun z M =>  M) := by
  refine .of func38 rfl ntmps38 rfl fun w0 D0 G0 => ?_
  unfold wide_Of at h
  refine .seq <| .reg rfl <| .opx (X.alc (cs := (api_Wide.cs ⟨0, 0, 0, 0⟩)) zeroValue77 rfl) rfl fun b1 => .nil <| .then <| .seq <| .reg rfl <| .opp (P.mov .t1) rfl <| .opp (P.bld (v := Ag (api_Wide.cs ⟨a0, 0, 0, 0⟩)) (.cons .t0 .nil) (bld_runA zeroValue77 runUnderlying77 sizeOf75 (by kernel_rfl))) rfl <| .opg (G.str .t0 .g0 .k0 (.mk (cs' := (api_Wide.cs ⟨a0, 0, 0, 0⟩)) sizeOf77 rfl rfl rfl rfl)) rfl fun _ _ => .nil <| .then ?_
  refine .ret ?_
  subst h
  exact .finw () (.r1 rfl (.cell .g0 .k0 (.agg isAgg77 sizeOf77 rfl rfl))) trivial (Ls.of .nil) .nil
attribute [irreducible] wide_Of
noncomputable def driver_decimal (a0 : Int) : Option (ByteArray) :=
  if (decide (a0 < 0)) = true then (Option.bind (text_Put (wide_Of (0 - (Ui a0)))) fun r2 => grd ((⟨#[45]⟩ : ByteArray).size + r2.size ≤ 9223372036854775807) <| some ((⟨#[45]⟩ : ByteArray) ++ r2)) else (Option.bind (text_Put (wide_Of (Ui a0))) fun r5 => some r5)
set_option maxRecDepth 20000 in
set_option maxHeartbeats 8000000 in
theorem S_driver_decimal (a0 : Int) (r : ByteArray) (h : driver_decimal a0 = some r) :
    SpecF Tryz.prog 28 [N a0] [] [] (fun z : Unit => True) (fun z => .string r) (fun z M =>  M) (fun z M =>  M) := by
  refine .of func28 rfl ntmps28 rfl fun w0 D0 G0 => ?_
  unfold driver_decimal at h
  refine .seq <| .reg rfl <| .op0 (OpP.toV (P.asg .k)) rfl <| .nil <| .then <| .seq <| .seq <| .reg rfl <| .opp (P.mov .g0) rfl <| .opp (P.bin .t0 .k .lss) rfl <| .nil <| .then ?_
  refine .cond .t0 (fun c1 => ?_) (fun c1 => ?_)
  · rw [if_pos c1] at h
    refine .seq <| .reg rfl <| .opp (P.mov .t0) rfl <| .opp (P.cnvU (m := a0) .t0 runUnderlying3 runUnderlying75) rfl <| .opp (P.negU (x := Ui a0) .t0) rfl <| .opg (G.call call38 (.cons .t0 .nil) (S_wide_Of (0 - (Ui a0)) _ rfl) .nil .nil (fun _ _ => rfl) (fun _ _ => rfl) rfl) rfl fun _ _ => ?_
    obtain ⟨r2, hr3, h⟩ := bnd_eq h
    refine .opg (G.call call27 (.cons .t0 .nil) (S_text_Put (wide_Of (0 - (Ui a0))) r2 hr3) .nil .nil (fun _ _ => rfl) (fun _ _ => rfl) rfl) rfl fun _ _ => ?_
    obtain ⟨hb4, h⟩ := grd_eq h
    refine .opp (P.bin .k .t0 (.str_add hb4)) rfl <| .opp (P.asg .t0) rfl <| .nil <| .then <| .ret <| .thr ?_
    cases h
    exact .finw () (.r1 rfl (.tmp .g0)) trivial (Ls.of .nil) .nil
  · rw [if_neg (ne_true_of_eq_false c1)] at h
    refine .skip <| .then <| .seq <| .reg rfl <| .opp (P.mov .t0) rfl <| .opp (P.cnvU (m := a0) .t0 runUnderlying3 runUnderlying75) rfl <| .opg (G.call call38 (.cons .t0 .nil) (S_wide_Of (Ui a0) _ rfl) .nil .nil (fun _ _ => rfl) (fun _ _ => rfl) rfl) rfl fun _ _ => ?_
    obtain ⟨r5, hr6, h⟩ := bnd_eq h
    refine .opg (G.call call27 (.cons .t0 .nil) (S_text_Put (wide_Of (Ui a0)) r5 hr6) .nil .nil (fun _ _ => rfl) (fun _ _ => rfl) rfl) rfl fun _ _ => .opp (P.asg .t0) rfl <| .nil <| .then <| .ret ?_
    cases h
    exact .finw () (.r1 rfl (.tmp .g0)) trivial (Ls.of .nil) .nil
attribute [irreducible] driver_decimal
noncomputable def driver_yes (a0 : Bool) : ByteArray :=
  if a0 = true then ⟨#[121, 101, 115]⟩ else ⟨#[110, 111]⟩
set_option maxRecDepth 20000 in
set_option maxHeartbeats 8000000 in
theorem S_driver_yes (a0 : Bool) (r : ByteArray) (h : driver_yes a0 = r) :
    SpecF Tryz.prog 30 [Bo a0] [] [] (fun z : Unit => True) (fun z => .string r) (fun z M =>  M) (fun z M =>  M) := by
  refine .of func30 rfl ntmps30 rfl fun w0 D0 G0 => ?_
  unfold driver_yes at h
  refine .seq <| .reg rfl <| .op0 (OpP.toV (P.asg .k)) rfl <| .nil <| .then <| .seq <| .seq <| .reg rfl <| .opp (P.mov .t0) rfl <| .nil <| .then <| .cond .t0 (fun c1 => ?_) (fun c1 => ?_)
  · rw [if_pos c1] at h
    refine .seq <| .reg rfl <| .opp (P.asg .k) rfl <| .nil <| .then <| .ret <| .thr ?_
    subst h
    exact .finw () (.r1 rfl (.tmp .g0)) trivial (Ls.of .nil) .nil
  · rw [if_neg (ne_true_of_eq_false c1)] at h
    refine .skip <| .then <| .seq <| .reg rfl <| .opp (P.asg .k) rfl <| .nil <| .then <| .ret ?_
    subst h
    exact .finw () (.r1 rfl (.tmp .g0)) trivial (Ls.of .nil) .nil
attribute [irreducible] driver_yes
noncomputable def driver_Line (a0 : driver_Report) : Option (ByteArray) :=
  Option.bind (driver_decimal a0.Now) fun r2 => Option.bind (driver_decimal a0.Events.a0) fun r6 => Option.bind (driver_decimal a0.Events.a1) fun r10 => Option.bind (driver_decimal a0.Mail) fun r14 => Option.bind (driver_decimal a0.Prepared) fun r18 => Option.bind (driver_decimal a0.Done) fun r22 => Option.bind (strings_Join ([r2, r6, r10, r14, r18, r22, (driver_yes a0.Well), (driver_yes a0.Solvent)] : List ByteArray) ⟨#[32]⟩) fun r28 => some r28
set_option maxRecDepth 20000 in
set_option maxHeartbeats 8000000 in
theorem S_driver_Line (a0 : driver_Report) (r : ByteArray) (h : driver_Line a0 = some r) :
    SpecF Tryz.prog 12 [Ag (driver_Report.cs a0)] [] [] (fun z : Unit => True) (fun z => .string r) (fun z M =>  M) (fun z M =>  M) := by
  refine .of func12 rfl ntmps12 rfl fun w0 D0 G0 => ?_
  unfold driver_Line at h
  refine .seq <| .reg rfl <| .opx (X.box (cs := (driver_Report.cs a0)) .t0 rfl) rfl fun b1 => .op0 (OpP.toV (P.asg .k)) rfl <| .nil <| .then <| .seq <| .reg rfl <| .opp (P.asg .k) rfl <| .nil <| .then <| .seq ?_
  refine .seq <| .reg rfl <| .opp (P.fa .g1 fa_38_0 rfl) rfl <| .op (V.ld (v := N a0.Now) .t0 .k0 (.one isAgg3 rfl)) rfl <| .opp (P.fa .g2 fa_38_1 rfl) rfl <| .opp (P.iac (i := 0) .k rfl .t0 runUnderlying36 sizeOf3 rfl rfl) rfl <| .op (V.ld (v := N a0.Events.a0) .t0 .k0 (.one isAgg3 rfl)) rfl <| .opp (P.fa .g3 fa_38_1 rfl) rfl <| .opp (P.iac (i := 1) .k rfl .t0 runUnderlying36 sizeOf3 rfl rfl) rfl <| .op (V.ld (v := N a0.Events.a1) .t0 .k0 (.one isAgg3 rfl)) rfl <| .opp (P.fa .g4 fa_38_2 rfl) rfl <| .op (V.ld (v := N a0.Mail) .t0 .k0 (.one isAgg3 rfl)) rfl ?_
  refine .opp (P.fa .g5 fa_38_3 rfl) rfl <| .op (V.ld (v := N a0.Prepared) .t0 .k0 (.one isAgg3 rfl)) rfl <| .opp (P.fa .g6 fa_38_4 rfl) rfl <| .op (V.ld (v := N a0.Done) .t0 .k0 (.one isAgg3 rfl)) rfl <| .opp (P.bld (v := Ag (A6_i64.cs ⟨a0.Now, a0.Events.a0, a0.Events.a1, a0.Mail, a0.Prepared, a0.Done⟩)) (.cons .t5 (.cons .t4 (.cons .t3 (.cons .t2 (.cons .t1 (.cons .t0 .nil)))))) (bld_runA zeroValue95 runUnderlying95 sizeOf3 (by kernel_rfl))) rfl <| .opp (P.mov .k) rfl <| .nil <| .then <| .block <| .rounds 7 <| .rd <| .seq ?_
  refine .reg rfl <| .opp (P.bin (v := Bo true) .g0 .k (BinV.lss.boolc (by decide))) rfl <| .nil <| .then <| .seq <| .condT .t0 <| .skip <| .then <| .seq <| .block <| .seq <| .reg rfl ?_
  refine .opp (P.idx (i := 0) (v := N a0.Now) .g1 .g0 rfl runUnderlying95 sizeOf3 (by decide) (.one isAgg3 rfl)) rfl <| .opp (P.asg .t0) rfl <| .nil <| .then <| .reg rfl <| .opp (P.mov .g3) rfl <| .opp (P.mov .t1) rfl ?_
  obtain ⟨r2, hr3, h⟩ := bnd_eq h
  refine .opg (G.call call28 (.cons .t0 .nil) (S_driver_decimal a0.Now r2 hr3) .nil .nil (fun _ _ => rfl) (fun _ _ => rfl) rfl) rfl fun _ _ => .opg (G.bsl (cs := [.string r2]) .t0 runUnderlying60 sizeOf9 zeroValue9 rfl rfl rfl rfl rfl) rfl fun u4 _ => .lnil 9 1 <| .opg (G.app (by_ := 16) .t1 .t0 .k0 (.inr (.inr ⟨_, Mm.m0⟩)) runUnderlying60 runUnderlying60 sizeOf9 typeInfo9 rfl rfl zeroValue9 rfl rfl (Nat.le_of_ble_eq_true rfl) rfl) rfl fun u5 _ => .conseq .k0 (q := lst 9 1 u5 [[.string r2]]) (fun _ hh => hh) <| .drop .k3 <| .opp (P.asg .t0) rfl <| .nil <| .inn <| .then <| .reg rfl <| .opp (P.bin (v := N 1) .g1 .k (.addc (by decide))) rfl ?_
  refine .drop .k2 <| .opp (P.mov .t0) rfl <| .nil <| .then <| .rd <| .seq <| .reg rfl <| .opp (P.bin (v := Bo true) .g0 .k (BinV.lss.boolc (by decide))) rfl <| .nil <| .then <| .seq <| .condT .t0 ?_
  refine .skip <| .then <| .seq <| .block <| .seq <| .reg rfl <| .opp (P.idx (i := 1) (v := N a0.Events.a0) .g2 .g0 rfl runUnderlying95 sizeOf3 (by decide) (.one isAgg3 rfl)) rfl <| .opp (P.asg .t0) rfl <| .nil <| .then <| .reg rfl <| .opp (P.mov .g2) rfl ?_
  refine .opp (P.mov .t1) rfl ?_
  obtain ⟨r6, hr7, h⟩ := bnd_eq h
  refine .opg (G.call call28 (.cons .t0 .nil) (S_driver_decimal a0.Events.a0 r6 hr7) .nil .nil (fun _ _ => rfl) (fun _ _ => rfl) rfl) rfl fun _ _ => .opg (G.bsl (cs := [.string r6]) .t0 runUnderlying60 sizeOf9 zeroValue9 rfl rfl rfl rfl rfl) rfl fun u8 _ => .opg (G.app (by_ := 16) .t1 .t0 .k1 (.inr (.inr ⟨_, Mm.m0⟩)) runUnderlying60 runUnderlying60 sizeOf9 typeInfo9 rfl rfl zeroValue9 rfl rfl (Nat.le_of_ble_eq_true rfl) rfl) rfl fun u9 _ => .conseq .k0 (q := lst 9 1 u9 [[.string r2], [.string r6]]) (fun _ hh => hh) <| .drop .k2 <| .opp (P.asg .t0) rfl <| .nil <| .inn <| .then <| .reg rfl <| .opp (P.bin (v := N 2) .g1 .k (.addc (by decide))) rfl <| .drop .k2 ?_
  refine .opp (P.mov .t0) rfl <| .nil <| .then <| .rd <| .seq <| .reg rfl <| .opp (P.bin (v := Bo true) .g0 .k (BinV.lss.boolc (by decide))) rfl <| .nil <| .then <| .seq <| .condT .t0 <| .skip ?_
  refine .then <| .seq <| .block <| .seq <| .reg rfl <| .opp (P.idx (i := 2) (v := N a0.Events.a1) .g2 .g0 rfl runUnderlying95 sizeOf3 (by decide) (.one isAgg3 rfl)) rfl <| .opp (P.asg .t0) rfl <| .nil <| .then <| .reg rfl <| .opp (P.mov .g2) rfl <| .opp (P.mov .t1) rfl ?_
  obtain ⟨r10, hr11, h⟩ := bnd_eq h
  refine .opg (G.call call28 (.cons .t0 .nil) (S_driver_decimal a0.Events.a1 r10 hr11) .nil .nil (fun _ _ => rfl) (fun _ _ => rfl) rfl) rfl fun _ _ => .opg (G.bsl (cs := [.string r10]) .t0 runUnderlying60 sizeOf9 zeroValue9 rfl rfl rfl rfl rfl) rfl fun u12 _ => .opg (G.app (by_ := 16) .t1 .t0 .k1 (.inr (.inr ⟨_, Mm.m0⟩)) runUnderlying60 runUnderlying60 sizeOf9 typeInfo9 rfl rfl zeroValue9 rfl rfl (Nat.le_of_ble_eq_true rfl) rfl) rfl fun u13 _ => .conseq .k0 (q := lst 9 1 u13 [[.string r2], [.string r6], [.string r10]]) (fun _ hh => hh) <| .drop .k2 <| .opp (P.asg .t0) rfl <| .nil <| .inn <| .then <| .reg rfl <| .opp (P.bin (v := N 3) .g1 .k (.addc (by decide))) rfl <| .drop .k2 ?_
  refine .opp (P.mov .t0) rfl <| .nil <| .then <| .rd <| .seq <| .reg rfl <| .opp (P.bin (v := Bo true) .g0 .k (BinV.lss.boolc (by decide))) rfl <| .nil <| .then <| .seq <| .condT .t0 <| .skip ?_
  refine .then <| .seq <| .block <| .seq <| .reg rfl <| .opp (P.idx (i := 3) (v := N a0.Mail) .g2 .g0 rfl runUnderlying95 sizeOf3 (by decide) (.one isAgg3 rfl)) rfl <| .opp (P.asg .t0) rfl <| .nil <| .then <| .reg rfl <| .opp (P.mov .g2) rfl <| .opp (P.mov .t1) rfl ?_
  obtain ⟨r14, hr15, h⟩ := bnd_eq h
  refine .opg (G.call call28 (.cons .t0 .nil) (S_driver_decimal a0.Mail r14 hr15) .nil .nil (fun _ _ => rfl) (fun _ _ => rfl) rfl) rfl fun _ _ => .opg (G.bsl (cs := [.string r14]) .t0 runUnderlying60 sizeOf9 zeroValue9 rfl rfl rfl rfl rfl) rfl fun u16 _ => .opg (G.app (by_ := 16) .t1 .t0 .k1 (.inr (.inr ⟨_, Mm.m0⟩)) runUnderlying60 runUnderlying60 sizeOf9 typeInfo9 rfl rfl zeroValue9 rfl rfl (Nat.le_of_ble_eq_true rfl) rfl) rfl fun u17 _ => .conseq .k0 (q := lst 9 1 u17 [[.string r2], [.string r6], [.string r10], [.string r14]]) (fun _ hh => hh) <| .drop .k2 <| .opp (P.asg .t0) rfl <| .nil <| .inn <| .then <| .reg rfl <| .opp (P.bin (v := N 4) .g1 .k (.addc (by decide))) rfl <| .drop .k2 ?_
  refine .opp (P.mov .t0) rfl <| .nil <| .then <| .rd <| .seq <| .reg rfl <| .opp (P.bin (v := Bo true) .g0 .k (BinV.lss.boolc (by decide))) rfl <| .nil <| .then <| .seq <| .condT .t0 <| .skip ?_
  refine .then <| .seq <| .block <| .seq <| .reg rfl <| .opp (P.idx (i := 4) (v := N a0.Prepared) .g2 .g0 rfl runUnderlying95 sizeOf3 (by decide) (.one isAgg3 rfl)) rfl <| .opp (P.asg .t0) rfl <| .nil <| .then <| .reg rfl <| .opp (P.mov .g2) rfl <| .opp (P.mov .t1) rfl ?_
  obtain ⟨r18, hr19, h⟩ := bnd_eq h
  refine .opg (G.call call28 (.cons .t0 .nil) (S_driver_decimal a0.Prepared r18 hr19) .nil .nil (fun _ _ => rfl) (fun _ _ => rfl) rfl) rfl fun _ _ => .opg (G.bsl (cs := [.string r18]) .t0 runUnderlying60 sizeOf9 zeroValue9 rfl rfl rfl rfl rfl) rfl fun u20 _ => .opg (G.app (by_ := 16) .t1 .t0 .k1 (.inr (.inr ⟨_, Mm.m0⟩)) runUnderlying60 runUnderlying60 sizeOf9 typeInfo9 rfl rfl zeroValue9 rfl rfl (Nat.le_of_ble_eq_true rfl) rfl) rfl fun u21 _ => .conseq .k0 (q := lst 9 1 u21 [[.string r2], [.string r6], [.string r10], [.string r14], [.string r18]]) (fun _ hh => hh) <| .drop .k2 <| .opp (P.asg .t0) rfl <| .nil <| .inn <| .then <| .reg rfl <| .opp (P.bin (v := N 5) .g1 .k (.addc (by decide))) rfl <| .drop .k2 ?_
  refine .opp (P.mov .t0) rfl <| .nil <| .then <| .rd <| .seq <| .reg rfl <| .opp (P.bin (v := Bo true) .g0 .k (BinV.lss.boolc (by decide))) rfl <| .nil <| .then <| .seq <| .condT .t0 <| .skip ?_
  refine .then <| .seq <| .block <| .seq <| .reg rfl <| .opp (P.idx (i := 5) (v := N a0.Done) .g2 .g0 rfl runUnderlying95 sizeOf3 (by decide) (.one isAgg3 rfl)) rfl <| .opp (P.asg .t0) rfl <| .nil <| .then <| .reg rfl <| .opp (P.mov .g2) rfl <| .opp (P.mov .t1) rfl ?_
  obtain ⟨r22, hr23, h⟩ := bnd_eq h
  refine .opg (G.call call28 (.cons .t0 .nil) (S_driver_decimal a0.Done r22 hr23) .nil .nil (fun _ _ => rfl) (fun _ _ => rfl) rfl) rfl fun _ _ => .opg (G.bsl (cs := [.string r22]) .t0 runUnderlying60 sizeOf9 zeroValue9 rfl rfl rfl rfl rfl) rfl fun u24 _ => .opg (G.app (by_ := 16) .t1 .t0 .k1 (.inr (.inr ⟨_, Mm.m0⟩)) runUnderlying60 runUnderlying60 sizeOf9 typeInfo9 rfl rfl zeroValue9 rfl rfl (Nat.le_of_ble_eq_true rfl) rfl) rfl fun u25 _ => .conseq .k0 (q := lst 9 1 u25 [[.string r2], [.string r6], [.string r10], [.string r14], [.string r18], [.string r22]]) (fun _ hh => hh) <| .drop .k2 <| .opp (P.asg .t0) rfl <| .nil <| .inn <| .then <| .reg rfl <| .opp (P.bin (v := N 6) .g1 .k (.addc (by decide))) rfl <| .drop .k2 ?_
  refine .opp (P.mov .t0) rfl <| .nil <| .then <| .rd <| .seq <| .reg rfl <| .opp (P.bin (v := Bo false) .g0 .k (BinV.lss.boolc (by decide))) rfl <| .nil <| .then <| .seq <| .condF .t0 <| .exit ?_
  refine .thx <| .thx <| .inb <| .then <| .seq <| .drawl [lst 9 1 u24 [[.string r22]], lst 9 1 u20 [[.string r18]], lst 9 1 u16 [[.string r14]], lst 9 1 u12 [[.string r10]], lst 9 1 u8 [[.string r6]], lst 9 1 u4 [[.string r2]], blk b1 38 (driver_Report.cs a0)] [] (Ls.of (.cons .k1 (.cons .k1 (.cons .k1 (.cons .k1 (.cons .k1 (.cons .k1 (.cons .k1 .nil)))))))) Rs.nil 11 (.on 0 .pu (.on 1 .pu (.on 4 .pu (.on 2 .ld (.on 5 .ld (.on 3 .go (.on 6 .go (.on 7 .go (.on 8 .go (.on 9 .go (.on 10 .go .nl))))))))))) follows_mixed (.thn .body) (by kernel_rfl) <| .dpu rfl (.n rfl) (P.mov .t1) rfl rfl <| .dpu rfl (.n rfl) (P.fa .g3 fa_38_5 rfl) rfl rfl <| .dpu rfl (.n rfl) (P.fa .t4 fa_38_6 rfl) rfl rfl <| .dld rfl (.n rfl) (V.ld (v := Bo a0.Well) .t1 .k6 (.one isAgg4 rfl)) (fun _ h => (h.imp (Ls.of (.cons .k1 (.cons .k1 (.cons .k1 (.cons .k1 (.cons .k1 (.cons .k1 (.cons .k1 .nil))))))))).ro Rs.nil) rfl rfl <| .dld rfl (.n rfl) (V.ld (v := Bo a0.Solvent) .t1 .k6 (.one isAgg4 rfl)) (fun _ h => (h.imp (Ls.of (.cons .k1 (.cons .k1 (.cons .k1 (.cons .k1 (.cons .k1 (.cons .k1 (.cons .k1 .nil))))))))).ro Rs.nil) rfl rfl <| .dgo rfl (.n rfl) (G.call call30 (.cons .t1 .nil) (S_driver_yes a0.Well _ rfl) .nil .nil (fun _ _ => rfl) (fun _ _ => rfl) rfl) (.inr fun _ _ _ h => (h.imp (Ls.of (.cons .k1 (.cons .k1 (.cons .k1 (.cons .k1 (.cons .k1 (.cons .k1 (.cons .k1 .nil))))))))).ro Rs.nil) fun _ _ => ?_
  refine .dgo rfl (.n rfl) (G.call call30 (.cons .t1 .nil) (S_driver_yes a0.Solvent _ rfl) .nil .nil (fun _ _ => rfl) (fun _ _ => rfl) rfl) (.inr fun _ _ _ h => (h.imp (Ls.of (.cons .k1 (.cons .k1 (.cons .k1 (.cons .k1 (.cons .k1 (.cons .k1 (.cons .k1 .nil))))))))).ro Rs.nil) fun _ _ => .dgo rfl (.n rfl) (G.bsln (xs := [[.string (driver_yes a0.Well)], [.string (driver_yes a0.Solvent)]]) (.cons .t1 (.cons .t0 .nil)) runUnderlying60 sizeOf9 zeroValue9 (by kernel_rfl) rfl rfl rfl rfl rfl) (.inr fun _ _ _ h => (h.imp (Ls.of (.cons .k2 (.cons .k2 (.cons .k2 (.cons .k2 (.cons .k2 (.cons .k2 (.cons .k2 .nil))))))))).ro Rs.nil) fun u26 _ => .dgo rfl (.n rfl) (G.app (by_ := 16) .t1 .t0 .k1 (.inr (.inr ⟨_, Mm.m0⟩)) runUnderlying60 runUnderlying60 sizeOf9 typeInfo9 rfl rfl zeroValue9 rfl rfl (Nat.le_of_ble_eq_true rfl) rfl) (.inr fun _ _ _ h => (h.imp (Ls.of (.cons .k2 (.cons .k2 (.cons .k2 (.cons .k2 (.cons .k2 (.cons .k2 (.cons .k2 .nil))))))))).ro Rs.nil) fun u27 _ => .conseq .k0 (q := lst 9 1 u27 [[.string r2], [.string r6], [.string r10], [.string r14], [.string r18], [.string r22], [.string (driver_yes a0.Well)], [.string (driver_yes a0.Solvent)]]) (fun _ hh => hh) <| .frz .k0 ?_
  obtain ⟨r28, hr29, h⟩ := bnd_eq h
  refine .dgo rfl (.n rfl) (G.call call29 (.cons .t0 (.cons .k .nil)) (S_strings_Join u27 ([r2, r6, r10, r14, r18, r22, (driver_yes a0.Well), (driver_yes a0.Solvent)] : List ByteArray) ⟨#[32]⟩ r28 hr29) .nil (.cons Mm.m0 .nil) (fun _ _ => rfl) (fun _ _ => rfl) rfl) (.inr fun _ _ _ h => (h.imp (Ls.of (.cons .k1 (.cons .k1 (.cons .k1 (.cons .k1 (.cons .k1 (.cons .k1 (.cons .k1 .nil))))))))).ro Rs.nil) fun _ _ => .dgo rfl (.n rfl) (OpV.g (OpP.toV (P.asg .t0)) rfl) (.inr fun _ _ _ h => (h.imp (Ls.of (.cons .k1 (.cons .k1 (.cons .k1 (.cons .k1 (.cons .k1 (.cons .k1 (.cons .k1 .nil))))))))).ro Rs.nil) fun _ _ => .dnil <| .then <| .ret ?_
  cases h
  exact .finw () (.r1 rfl (.tmp .g0)) trivial (Ls.of .nil) .nil
attribute [irreducible] driver_Line
noncomputable def blob_Int (a0 : List UInt8) : Option (Int) :=
  grd (okS a0.length none (some (if 7 < (a0.length : Int) then 7 else (a0.length : Int))) none) <| Option.bind (loopR (fun (i5 : Nat) (e8 : UInt8) (s6 : Int) => some (.nx (borK .i64 (shlK .i64 s6 8) (e8.toNat : Int)))) 0 (slc a0 0 (if 7 < (a0.length : Int) then 7 else (a0.length : Int)).toNat) 0) fun o9 => Lo.on o9 fun (s6 : Int) => some s6
set_option maxRecDepth 20000 in
set_option maxHeartbeats 8000000 in
theorem S_blob_Int (v00 : Value) (a0 : List UInt8) (r : Int) (h : blob_Int a0 = some r) :
    SpecF Tryz.prog 171 [v00] [] [rows 1 v00 (a0.map (fun x => [B8 x]))] (fun z : Unit => True) (fun z => N r) (fun z M =>  M) (fun z M =>  M) := by
  refine .of func171 rfl ntmps171 rfl fun w0 D0 G0 => ?_
  unfold blob_Int at h
  refine .seq <| .reg rfl <| .op0 (OpP.toV (P.asg .k)) rfl <| .nil <| .then <| .seq <| .reg rfl <| .opp (P.asg .k) rfl <| .nil <| .then <| .seq <| .seq ?_
  refine .reg rfl <| .opp (P.mov .g1) rfl <| .opp (P.mov .t2) rfl <| .op (V.lnr (n := a0.length) .t0 Mm.m0 map_len runUnderlying70) rfl <| .opp (P.min2 .t0 .k) rfl ?_
  obtain ⟨hb1, h⟩ := grd_eq h
  refine .capq Mm.m0 fun hc3 => .opg (G.slr (li := none) (hj := (some (if 7 < (a0.length : Int) then 7 else (a0.length : Int)))) (mk := none) .t1 .none (.some .t0) .none Mm.m0 hc3 runUnderlying70 sizeOf5 (by simpa using hb1) rfl) rfl fun u2 hu4 => .rhead (q := rows 1 u2 ((slc a0 0 (if 7 < (a0.length : Int) then 7 else (a0.length : Int)).toNat).map (fun x => [B8 x]))) (fun _ hh => by simpa [slc_map] using hh) <| .op (V.lnr (n := (slc a0 0 (if 7 < (a0.length : Int) then 7 else (a0.length : Int)).toNat).length) .g0 Mm.m0 map_len runUnderlying70) rfl <| .opp (P.mov .k) rfl <| .nil <| .then <| .block ?_
  obtain ⟨o9, ho10, h⟩ := bnd_eq h
  refine .lenq Mm.m0 fun hl16 => ?_
  rw [map_len] at hl16
  refine .loopR (γ := Unit) (fun i5 (s6 : Int) z7 => [(12, N (i5 : Int)), (11, N ((slc a0 0 (if 7 < (a0.length : Int) then 7 else (a0.length : Int)).toNat).length : Int)), (10, u2), (3, N s6)]) (fun (s6 : Int) z7 => []) (fun (s6 : Int) z7 => [rows 1 u2 ((slc a0 0 (if 7 < (a0.length : Int) then 7 else (a0.length : Int)).toNat).map (fun x => [B8 x])), rows 1 v00 (a0.map (fun x => [B8 x]))]) () ho10 (.cons Mm.m0 (.cons Mm.m1 (.cons Mm.m2 (.cons Mm.m3 .nil)))) (.of .nil) (.cons Mm.m0 (.cons Mm.m1 .nil)) (fun i5 s6 z7 hi17 hr13 => ?_)
  refine .seq <| .reg rfl <| .opp (P.bin (v := Bo (decide ((i5 : Int) < ((slc a0 0 (if 7 < (a0.length : Int) then 7 else (a0.length : Int)).toNat).length : Nat)))) .g0 .g1 .lss) rfl <| .nil <| .then <| .seq <| .cond .t0 (fun c18 => ?_) (fun c18 => ?_)
  · obtain ⟨e8, hx15⟩ := get_of c18
    obtain ⟨ct14, hc11, hn12⟩ := loopR_at hx15 hr13
    refine .skip <| .then <| .seq <| .block <| .seq <| .reg rfl <| .ixq Mm.m0 (map_get hx15) fun p19 q20 hq21 => .opp (P.ixi (i := i5) .g0 rfl .g2 hq21 runUnderlying70 sizeOf5) rfl <| .op (V.ldx0 (u := B8 e8) .t0 hq21 Mm.m0 (map_get hx15) (.one isAgg5 rfl)) rfl <| .opp (P.asg .t0) rfl <| .nil <| .then ?_
    refine .reg rfl <| .opp (P.mov .g4) rfl <| .opp (P.bin .t0 .k (.shl (by decide))) rfl <| .opp (P.mov .t1) rfl <| .opp (P.cnvIB8 (x := e8) .t0 runUnderlying5 runUnderlying3) rfl <| .opp (P.bin .t1 .t0 .or) rfl <| .drop .k4 <| .opp (P.asg .t0) rfl <| .nil <| .inn <| .then <| .reg rfl ?_
    refine .opp (P.bin .g1 .k (.addc (inc_ok (lt_of_get hx15) hl16))) rfl <| .drop .k2 <| .opp (P.mov .t0) rfl <| .nil ?_
    cases hc11
    exact .rdR (borK .i64 (shlK .i64 s6 8) (e8.toNat : Int)) () hn12 (lt_of_get hx15) (.cons Mm.m0 (.cons Mm.m2 (.cons Mm.m3 (.cons Mm.m1 .nil)))) (.of .nil) (.cons Mm.m0 (.cons Mm.m1 .nil))
  · obtain rfl := loopR_end (le_of_not c18) hr13
    have h := dn_on h
    refine .exit <| .thx <| .thx <| .inb <| .then <| .seq <| .reg rfl <| .opp (P.mov .t3) rfl <| .opp (P.asg .t0) rfl <| .nil <| .then <| .ret ?_
    cases h
    exact .finw () (.r1 rfl (.tmp .g0)) trivial (Ls.of .nil) .nil
attribute [irreducible] blob_Int
noncomputable def slices_Grow_byte_nil (a1 : Int) : Option ((List UInt8)) :=
  if (decide (a1 < 0)) = true then none else (Option.bind (if (decide ((IntKind.i64.wrap (a1 - 0)) > 0)) = true then (grd (0 ≤ (IntKind.i64.wrap (a1 - 0)) ∧ (IntKind.i64.wrap (a1 - 0)) * 1 ≤ 70368744177664) <| some ()) else (some ())) fun (y2 : Unit) => some ([] : List UInt8))
set_option maxRecDepth 20000 in
set_option maxHeartbeats 8000000 in
theorem S_slices_Grow_byte_nil (a1 : Int) (r : (List UInt8)) (h : slices_Grow_byte_nil a1 = some r) :
    SpecF Tryz.prog 236 [nilSl, N a1] [] [] (fun z : Value => True) (fun z => z) (fun z M => lst 5 1 z (r.map (fun x => [B8 x])) ::  M) (fun z M =>  M) := by
  refine .of func236 rfl ntmps236 rfl fun w0 D0 G0 => ?_
  unfold slices_Grow_byte_nil at h
  refine .seq <| .reg rfl <| .op0 (OpP.toV (P.asg .k)) rfl <| .nil <| .then <| .seq <| .seq <| .reg rfl <| .opp (P.mov .g1) rfl <| .opp (P.bin .t0 .k .lss) rfl <| .nil <| .then ?_
  refine .cond .t0 (fun c1 => ?_) (fun c1 => ?_)
  · rw [if_pos c1] at h
    refine .reg rfl ?_
    cases h
  · rw [if_neg (ne_true_of_eq_false c1)] at h
    refine .skip <| .then ?_
    obtain ⟨y2, hj4, h⟩ := bnd_eq h
    refine .cutx (γ := Value) (E1 := fun z3 => [(0, z3)]) (L1 := fun z3 => [lst 5 1 z3 []]) (R1 := fun z3 => []) ?_ (fun z3 => ?_)
    · clear h
      refine .seq <| .reg rfl <| .opp (P.mov .g1) rfl <| .opp (P.mov .g1) rfl <| .opp (P.capn .t0 runUnderlying70) rfl <| .opp (P.mov .g2) rfl <| .opp (P.lenn .t0 runUnderlying70) rfl <| .opp (P.bin (v := N 0) .t1 .t0 (.subc (by decide))) rfl <| .opp (P.bin .t1 .t0 .sub) rfl <| .drop .k2 <| .opp (P.asg .t0) rfl <| .nil ?_
      refine .then <| .seq <| .reg rfl <| .opp (P.mov .g0) rfl <| .opp (P.bin .t0 .k .gtr) rfl <| .nil <| .then <| .cond .t0 (fun c5 => ?_) (fun c5 => ?_)
      · rw [if_pos c5] at hj4
        refine .reg rfl <| .opp (P.mov .g1) rfl <| .opp (P.mov .g2) rfl <| .opp (P.capn .t0 runUnderlying70) rfl <| .opp (P.sln .t1 .t0 runUnderlying70 sizeOf5) rfl <| .opp (P.mov .t1) rfl ?_
        obtain ⟨hb7, hj4⟩ := grd_eq hj4
        refine .opg (G.appn (by_ := 1) (cs := [B8 0]) (m := IntKind.i64.wrap (a1 - 0)) .t1 .t0 runUnderlying70 runUnderlying3 sizeOf5 typeInfo5 rfl rfl zeroValue5 rfl rfl rfl hb7.1 hb7.2 rfl) rfl fun u6 _ => .conseq .k0 (q := lst 5 1 u6 ((List.replicate (IntKind.i64.wrap (a1 - 0)).toNat (0 : UInt8)).map (fun x => [B8 x]))) (fun _ hh => by simpa [List.map_replicate] using hh) <| .opp (P.mov .g1) rfl <| .opp (P.lenn .t0 runUnderlying70) rfl <| .opg (G.sll (m := 0) .t1 .t0 .k0 runUnderlying70 sizeOf5 (by decide) (Int.natCast_nonneg _) rfl) rfl fun u8 _ => .conseq .k0 (q := lst 5 1 u8 []) (fun _ hh => by simpa using hh) <| .drop .k1 <| .opp (P.asg .t0) rfl <| .nil ?_
        cases hj4
        exact .stj u8 (.cons Mm.m0 .nil) (.of (.cons .k0 .nil)) .nil
      · rw [if_neg (ne_true_of_eq_false c5)] at hj4
        refine .skip ?_
        cases hj4
        exact .lnil 5 1 <| .stj nilSl (.cons Mm.m1 .nil) (.of (.cons .k0 .nil)) .nil
    · clear hj4
      refine .seq <| .reg rfl <| .opp (P.mov .t0) rfl <| .opp (P.asg .t0) rfl <| .nil <| .then <| .ret ?_
      cases h
      exact .finw z3 (.r1 rfl (.tmp .g0)) trivial (Ls.of (.cons .k0 .nil)) .nil
attribute [irreducible] slices_Grow_byte_nil
noncomputable def slices_Concat_byte_n1 (a0a : List UInt8) : Option ((List UInt8)) :=
  if (decide ((IntKind.i64.wrap (0 + (a0a.length : Int))) < 0)) = true then none else (Option.bind (slices_Grow_byte_nil (IntKind.i64.wrap (0 + (a0a.length : Int)))) fun r5 => grd ((r5.length + a0a.length) * 1 ≤ 140737488355328) <| some (r5 ++ a0a))
set_option maxRecDepth 20000 in
set_option maxHeartbeats 8000000 in
theorem S_slices_Concat_byte_n1 (v00 : Value) (z00a : Value) (a0a : List UInt8) (r : (List UInt8)) (h : slices_Concat_byte_n1 a0a = some r) :
    SpecF Tryz.prog 160 [v00] [] [rows 1 v00 [[z00a]], rows 1 z00a (a0a.map (fun x => [B8 x]))] (fun z : Value => True) (fun z => z) (fun z M => lst 5 1 z (r.map (fun x => [B8 x])) ::  M) (fun z M =>  M) := by
  refine .of func160 rfl ntmps160 rfl fun w0 D0 G0 => ?_
  unfold slices_Concat_byte_n1 at h
  refine .seq <| .reg rfl <| .op0 (OpP.toV (P.asg .k)) rfl <| .nil <| .then <| .seq <| .reg rfl <| .opp (P.asg .k) rfl <| .nil <| .then <| .seq <| .seq ?_
  refine .reg rfl <| .opp (P.mov .g1) rfl <| .op (V.lnr (n := 1) .g0 Mm.m0 rfl runUnderlying116) rfl <| .opp (P.mov .k) rfl <| .nil <| .then <| .block <| .rounds 2 <| .rd <| .seq <| .reg rfl <| .opp (P.bin (v := Bo true) .g0 .g1 (BinV.lss.boolc (by decide))) rfl ?_
  refine .nil <| .then <| .seq <| .condT .t0 <| .skip <| .then <| .seq <| .block <| .seq <| .reg rfl <| .ixq Mm.m0 (show [[z00a]][0]? = some [z00a] from rfl) fun p1 q2 hq3 => .opp (P.ixi (i := 0) .g0 rfl .g2 hq3 runUnderlying116 sizeOf70) rfl ?_
  refine .op (V.ldx0 (u := z00a) .t0 hq3 Mm.m0 (show [[z00a]][0]? = some [z00a] from rfl) (.one isAgg70 rfl)) rfl <| .opp (P.asg .t0) rfl <| .nil <| .then <| .seq <| .reg rfl <| .opp (P.mov .g4) rfl <| .opp (P.mov .t1) rfl <| .op (V.lnr (n := a0a.length) .t0 Mm.m1 map_len runUnderlying70) rfl <| .opp (P.bin .t1 .t0 .add) rfl <| .drop .k4 <| .opp (P.asg .t0) rfl ?_
  refine .nil <| .then <| .seq <| .reg rfl <| .opp (P.mov .g0) rfl <| .opp (P.bin .t0 .k .lss) rfl <| .nil <| .then <| .cond .t0 (fun c4 => ?_) (fun c4 => ?_)
  · rw [if_pos c4] at h
    refine .reg rfl ?_
    cases h
  · rw [if_neg (ne_true_of_eq_false c4)] at h
    refine .skip <| .inn <| .then <| .reg rfl <| .opp (P.bin (v := N 1) .g1 .k (.addc (by decide))) rfl <| .drop .k2 <| .opp (P.mov .t0) rfl <| .nil <| .then <| .rd <| .seq <| .reg rfl ?_
    refine .opp (P.bin (v := Bo false) .g0 .g2 (BinV.lss.boolc (by decide))) rfl <| .nil <| .then <| .seq <| .condF .t0 <| .exit <| .thx <| .thx <| .inb <| .then <| .seq <| .reg rfl ?_
    refine .opp (P.mov .t1) rfl ?_
    obtain ⟨r5, hr6, h⟩ := bnd_eq h
    refine .opg (G.call call236 (.cons .k (.cons .t0 .nil)) (S_slices_Grow_byte_nil (IntKind.i64.wrap (0 + (a0a.length : Int))) r5 hr6) .nil .nil (fun _ _ => rfl) (fun _ _ => rfl) rfl) rfl fun u7 _ => .opp (P.asg .t0) rfl <| .nil <| .then <| .seq <| .seq <| .reg rfl <| .opp (P.mov .t4) rfl <| .op (V.lnr (n := 1) .g0 Mm.m0 rfl runUnderlying116) rfl <| .opp (P.mov .k) rfl <| .nil <| .then ?_
    refine .block <| .rounds 2 <| .rd <| .seq <| .reg rfl <| .opp (P.bin (v := Bo true) .g0 .g1 (BinV.lss.boolc (by decide))) rfl <| .nil <| .then <| .seq <| .condT .t0 <| .skip <| .then ?_
    refine .seq <| .block <| .seq <| .reg rfl <| .ixq Mm.m0 (show [[z00a]][0]? = some [z00a] from rfl) fun p8 q9 hq10 => .opp (P.ixi (i := 0) .g0 rfl .g2 hq10 runUnderlying116 sizeOf70) rfl <| .op (V.ldx0 (u := z00a) .t0 hq10 Mm.m0 (show [[z00a]][0]? = some [z00a] from rfl) (.one isAgg70 rfl)) rfl <| .opp (P.asg .t0) rfl <| .nil <| .then <| .reg rfl <| .opp (P.mov .g4) rfl ?_
    refine .opp (P.mov .t1) rfl ?_
    obtain ⟨hb12, h⟩ := grd_eq h
    refine .opg (G.app (by_ := 1) .t1 .t0 .k0 (.inl Mm.m1) runUnderlying70 runUnderlying70 sizeOf5 typeInfo5 rfl rfl zeroValue5 rfl (one_map one_5 _) (by simpa using hb12) rfl) rfl fun u11 _ => .conseq .k0 (q := lst 5 1 u11 ((r5 ++ a0a).map (fun x => [B8 x]))) (fun _ hh => by simpa [List.map_append] using hh) <| .drop .k4 <| .opp (P.asg .t0) rfl <| .nil <| .inn <| .then <| .reg rfl <| .opp (P.bin (v := N 1) .g1 .k (.addc (by decide))) rfl <| .drop .k2 <| .opp (P.mov .t0) rfl <| .nil ?_
    refine .then <| .rd <| .seq <| .reg rfl <| .opp (P.bin (v := Bo false) .g0 .g2 (BinV.lss.boolc (by decide))) rfl <| .nil <| .then <| .seq <| .condF .t0 <| .exit <| .thx <| .thx ?_
    refine .inb <| .then <| .seq <| .reg rfl <| .opp (P.mov .t1) rfl <| .opp (P.asg .t0) rfl <| .nil <| .then <| .ret ?_
    cases h
    exact .finw u11 (.r1 rfl (.tmp .g0)) trivial (Ls.of (.cons .k0 .nil)) .nil
attribute [irreducible] slices_Concat_byte_n1
noncomputable def blob_Cat_n1 (a0a : List UInt8) : Option ((List UInt8)) :=
  Option.bind (slices_Concat_byte_n1 a0a) fun r1 => some r1
set_option maxRecDepth 20000 in
set_option maxHeartbeats 8000000 in
theorem S_blob_Cat_n1 (v00 : Value) (z00a : Value) (a0a : List UInt8) (r : (List UInt8)) (h : blob_Cat_n1 a0a = some r) :
    SpecF Tryz.prog 92 [v00] [] [rows 1 v00 [[z00a]], rows 1 z00a (a0a.map (fun x => [B8 x]))] (fun z : Value => True) (fun z => z) (fun z M => lst 5 1 z (r.map (fun x => [B8 x])) ::  M) (fun z M =>  M) := by
  refine .of func92 rfl ntmps92 rfl fun w0 D0 G0 => ?_
  unfold blob_Cat_n1 at h
  refine .seq <| .reg rfl <| .op0 (OpP.toV (P.asg .k)) rfl <| .nil <| .then <| .seq <| .reg rfl <| .opp (P.mov .t0) rfl ?_
  obtain ⟨r1, hr2, h⟩ := bnd_eq h
  refine .opg (G.call call160 (.cons .t0 .nil) (S_slices_Concat_byte_n1 v00 z00a a0a r1 hr2) .nil (.cons Mm.m0 (.cons Mm.m1 .nil)) (fun _ _ => rfl) (fun _ _ => rfl) rfl) rfl fun u3 _ => .opp (P.asg .t0) rfl <| .nil <| .then <| .ret ?_
  cases h
  exact .finw u3 (.r1 rfl (.tmp .g0)) trivial (Ls.of (.cons .k0 .nil)) .nil
attribute [irreducible] blob_Cat_n1
noncomputable def script_next (a0 : List UInt8) : Option (api_Step × (List UInt8) × Bool) :=
  if (decide ((a0.length : Int) < 9)) = true then (some (((⟨0, 0, 0, 0, []⟩ : api_Step), ([] : List UInt8), false))) else (grd (okS a0.length (some 7) (some 9) none) <| Option.bind (blob_Int (slc a0 (7 : Int).toNat (9 : Int).toNat)) fun r7 => thn (if (decide (r7 > 1024)) = true then true else (decide (r7 > (IntKind.i64.wrap ((a0.length : Int) - 9))))) fun (y9 : Bool) => if y9 = true then (some (((⟨0, 0, 0, 0, []⟩ : api_Step), ([] : List UInt8), false))) else (grd (okS a0.length (some 1) (some 3) none) <| Option.bind (blob_Int (slc a0 (1 : Int).toNat (3 : Int).toNat)) fun r19 => grd (okS a0.length (some 3) (some 5) none) <| Option.bind (blob_Int (slc a0 (3 : Int).toNat (5 : Int).toNat)) fun r25 => grd (okS a0.length (some 5) (some 7) none) <| Option.bind (blob_Int (slc a0 (5 : Int).toNat (7 : Int).toNat)) fun r31 => Option.bind (at_ a0 0) fun (x36 : UInt8) => grd (okS a0.length (some 9) (some (IntKind.i64.wrap (9 + r7))) none) <| grd (okS a0.length (some (IntKind.i64.wrap (9 + r7))) none none) <| Option.bind (blob_Cat_n1 (slc a0 (9 : Int).toNat (IntKind.i64.wrap (9 + r7)).toNat)) fun r52 => some (((⟨(x36.toNat : Int), IntKind.i64.wrap (r19 - 32768), IntKind.i64.wrap (r25 - 32768), IntKind.i64.wrap (r31 - 32768), r52⟩ : api_Step), (slc a0 (IntKind.i64.wrap (9 + r7)).toNat a0.length), true))))
set_option maxRecDepth 20000 in
set_option maxHeartbeats 8000000 in
theorem S_script_next (v00 : Value) (a0 : List UInt8) (r : api_Step × (List UInt8) × Bool) (h : script_next a0 = some r) :
    SpecF Tryz.prog 108 [v00] [] [rows 1 v00 (a0.map (fun x => [B8 x]))] (fun z : Value × Value => True) (fun z => Tu [Ag (api_Step.cs r.1 z.1), z.2, Bo r.2.2]) (fun z M => lst 5 1 z.1 (r.1.Data.map (fun x => [B8 x])) ::  M) (fun z M => rows 1 z.2 (r.2.1.map (fun x => [B8 x])) ::  M) := by
  refine .of func108 rfl ntmps108 rfl fun w0 D0 G0 => ?_
  unfold script_next at h
  refine .seq <| .reg rfl <| .opx (X.alc (cs := (api_Step.cs ⟨0, 0, 0, 0, []⟩ nilSl)) zeroValue72 rfl) rfl fun b1 => .op0 (OpP.toV (P.asg .k)) rfl <| .op0 (OpP.toV (P.asg .k)) rfl <| .nil <| .then <| .seq <| .seq <| .reg rfl <| .opp (P.mov .g1) rfl <| .op (V.lnr (n := a0.length) .t0 Mm.m0 map_len runUnderlying70) rfl ?_
  refine .opp (P.bin .t0 .k .lss) rfl <| .nil <| .then <| .cond .t0 (fun c2 => ?_) (fun c2 => ?_)
  · rw [if_pos c2] at h
    refine .seq <| .reg rfl <| .opp (P.bld (v := Ag (api_Step.cs ⟨0, 0, 0, 0, []⟩ nilSl)) .nil (bld_run zeroValue72 runUnderlying72 pl_72 (by kernel_rfl))) rfl <| .opg (G.str .t0 .g0 .k0 (.mk (cs' := (api_Step.cs ⟨0, 0, 0, 0, []⟩ nilSl)) sizeOf72 rfl (onez_72 (⟨0, 0, 0, 0, []⟩ : api_Step) rfl) rfl rfl)) rfl fun _ _ => .opp (P.asg .k) rfl <| .opp (P.asg .k) rfl <| .nil <| .then <| .ret <| .thr ?_
    cases h
    exact .lnil 5 1 <| .rnil0 1 <| .finw ⟨nilSl, nilSl⟩ (.r3 rfl (.cell .g2 .k1 (.agg isAgg72 sizeOf72 rfl rfl)) (.tmp .g1) (.tmp .g0)) trivial (Ls.of (.cons .k0 .nil)) (.cons Mm.m0 .nil)
  · rw [if_neg (ne_true_of_eq_false c2)] at h
    refine .skip <| .then <| .seq <| .reg rfl <| .opp (P.mov .g1) rfl ?_
    obtain ⟨hb3, h⟩ := grd_eq h
    refine .capq Mm.m0 fun hc5 => .opg (G.slr (li := (some 7)) (hj := (some 9)) (mk := none) .t0 (.some .k) (.some .k) .none Mm.m0 hc5 runUnderlying70 sizeOf5 (by simpa using hb3) rfl) rfl fun u4 hu6 => .rhead (q := rows 1 u4 ((slc a0 (7 : Int).toNat (9 : Int).toNat).map (fun x => [B8 x]))) (fun _ hh => by simpa [slc_map] using hh) ?_
    obtain ⟨r7, hr8, h⟩ := bnd_eq h
    refine .opg (G.call call171 (.cons .t0 .nil) (S_blob_Int u4 (slc a0 (7 : Int).toNat (9 : Int).toNat) r7 hr8) .nil (.cons Mm.m0 .nil) (fun _ _ => rfl) (fun _ _ => rfl) rfl) rfl fun _ _ => .opp (P.asg .t0) rfl <| .nil <| .then <| .seq ?_
    obtain ⟨y9, hj11, h⟩ := thn_eq h
    refine .cutx (γ := Unit) (E1 := fun z10 => [(23, Bo y9), (5, N r7), (2, pt b1 0), (0, v00)]) (L1 := fun z10 => [blk b1 72 (api_Step.cs ⟨0, 0, 0, 0, []⟩ nilSl)]) (R1 := fun z10 => [rows 1 v00 (a0.map (fun x => [B8 x]))]) ?_ (fun z10 => ?_)
    · clear h
      refine .reg rfl <| .opp (P.mov .g0) rfl <| .opp (P.bin .t0 .k .gtr) rfl <| .opp (P.mov .t0) rfl <| .split .k0 (fun c12 => ?_) (fun c12 => ?_)
      · rw [if_pos c12] at hj11
        refine .gno rfl .g0 rfl rfl <| .gno rfl .g0 rfl rfl <| .gno rfl .g0 rfl rfl <| .gno rfl .g0 rfl rfl <| .gno rfl .g0 rfl rfl <| .opp (P.pickT .t0 .k) rfl <| .nil ?_
        subst hj11
        exact .stj () (.cons Mm.m0 (.cons Mm.m1 (.cons Mm.m2 (.cons Mm.m3 .nil)))) (.of (.cons .k0 .nil)) (.cons Mm.m1 .nil)
      · rw [if_neg (ne_true_of_eq_false c12)] at hj11
        refine .gyes rfl .g0 <| .opp (P.mov .g1) rfl <| .gyes rfl .g1 <| .opp (P.mov .g4) rfl <| .gyes rfl .g2 <| .op (V.lnr (n := a0.length) .t0 Mm.m1 map_len runUnderlying70) rfl <| .gyes rfl .g2 <| .opp (P.bin .t0 .k .sub) rfl <| .gyes rfl .g2 <| .opp (P.bin .t1 .t0 .gtr) rfl <| .opp (P.pickF .t1 .t0) rfl <| .nil ?_
        subst hj11
        exact .stj () (.cons Mm.m0 (.cons Mm.m1 (.cons Mm.m2 (.cons Mm.m3 .nil)))) (.of (.cons .k0 .nil)) (.cons Mm.m1 .nil)
    · clear hj11
      refine .cond .t0 (fun c13 => ?_) (fun c13 => ?_)
      · rw [if_pos c13] at h
        refine .seq <| .reg rfl <| .opp (P.bld (v := Ag (api_Step.cs ⟨0, 0, 0, 0, []⟩ nilSl)) .nil (bld_run zeroValue72 runUnderlying72 pl_72 (by kernel_rfl))) rfl <| .opg (G.str .t0 .g1 .k0 (.mk (cs' := (api_Step.cs ⟨0, 0, 0, 0, []⟩ nilSl)) sizeOf72 rfl (onez_72 (⟨0, 0, 0, 0, []⟩ : api_Step) rfl) rfl rfl)) rfl fun _ _ => .opp (P.asg .k) rfl <| .opp (P.asg .k) rfl <| .nil <| .then <| .ret <| .thr ?_
        cases h
        exact .lnil 5 1 <| .rnil0 1 <| .finw ⟨nilSl, nilSl⟩ (.r3 rfl (.cell .g3 .k1 (.agg isAgg72 sizeOf72 rfl rfl)) (.tmp .g1) (.tmp .g0)) trivial (Ls.of (.cons .k0 .nil)) (.cons Mm.m0 .nil)
      · rw [if_neg (ne_true_of_eq_false c13)] at h
        refine .skip <| .then <| .seq <| .reg rfl <| .opx (X.alc (cs := (A3_i64.cs ⟨0, 0, 0⟩)) zeroValue288 rfl) rfl fun b14 => .nil <| .then <| .seq <| .seq <| .reg rfl <| .opp (P.mov .k) rfl <| .nil ?_
        refine .then <| .block <| .rounds 4 <| .rd <| .seq <| .reg rfl <| .opp (P.bin (v := Bo true) .g0 .k (BinV.lss.boolc (by decide))) rfl <| .nil <| .then <| .seq <| .condT .t0 <| .skip ?_
        refine .then <| .seq <| .block <| .seq <| .reg rfl <| .opp (P.mov .g0) rfl <| .opp (P.asg .t0) rfl <| .nil <| .then <| .reg rfl <| .opp (P.mov .g0) rfl <| .opp (P.mov .g6) rfl ?_
        refine .opp (P.mov .g2) rfl <| .opp (P.bin (v := N 0) .k .t0 (.mulc (by decide))) rfl <| .opp (P.bin (v := N 1) .k .t0 (.addc (by decide))) rfl <| .opp (P.mov .t3) rfl <| .opp (P.bin (v := N 0) .k .t0 (.mulc (by decide))) rfl <| .opp (P.bin (v := N 3) .k .t0 (.addc (by decide))) rfl ?_
        obtain ⟨hb15, h⟩ := grd_eq h
        refine .capq Mm.m0 fun hc17 => .opg (G.slr (li := (some 1)) (hj := (some 3)) (mk := none) .t2 (.some .t1) (.some .t0) .none Mm.m0 hc17 runUnderlying70 sizeOf5 (by simpa using hb15) rfl) rfl fun u16 hu18 => .rhead (q := rows 1 u16 ((slc a0 (1 : Int).toNat (3 : Int).toNat).map (fun x => [B8 x]))) (fun _ hh => by simpa [slc_map] using hh) ?_
        obtain ⟨r19, hr20, h⟩ := bnd_eq h
        refine .opg (G.call call171 (.cons .t0 .nil) (S_blob_Int u16 (slc a0 (1 : Int).toNat (3 : Int).toNat) r19 hr20) .nil (.cons Mm.m0 .nil) (fun _ _ => rfl) (fun _ _ => rfl) rfl) rfl fun _ _ => .opp (P.bin .t0 .k .sub) rfl <| .opp (P.iac (i := 0) .t1 rfl .g2 runUnderlying288 sizeOf3 rfl rfl) rfl <| .opg (G.str .t1 .t0 .k0 (.mk (cs' := (A3_i64.cs ⟨IntKind.i64.wrap (r19 - 32768), 0, 0⟩)) sizeOf3 rfl rfl rfl rfl)) rfl fun _ _ => .nil <| .inn <| .then <| .reg rfl <| .opp (P.bin (v := N 1) .g0 .k (.addc (by decide))) rfl <| .drop .k1 <| .opp (P.mov .t0) rfl <| .nil ?_
        refine .then <| .rd <| .seq <| .reg rfl <| .opp (P.bin (v := Bo true) .g0 .k (BinV.lss.boolc (by decide))) rfl <| .nil <| .then <| .seq <| .condT .t0 <| .skip <| .then <| .seq ?_
        refine .block <| .seq <| .reg rfl <| .opp (P.mov .g0) rfl <| .opp (P.asg .t0) rfl <| .nil <| .then <| .reg rfl <| .opp (P.mov .g0) rfl <| .opp (P.mov .g6) rfl <| .opp (P.mov .g2) rfl <| .opp (P.bin (v := N 2) .k .t0 (.mulc (by decide))) rfl ?_
        refine .opp (P.bin (v := N 3) .k .t0 (.addc (by decide))) rfl <| .opp (P.mov .t3) rfl <| .opp (P.bin (v := N 2) .k .t0 (.mulc (by decide))) rfl <| .opp (P.bin (v := N 5) .k .t0 (.addc (by decide))) rfl ?_
        obtain ⟨hb21, h⟩ := grd_eq h
        refine .capq Mm.m1 fun hc23 => .opg (G.slr (li := (some 3)) (hj := (some 5)) (mk := none) .t2 (.some .t1) (.some .t0) .none Mm.m1 hc23 runUnderlying70 sizeOf5 (by simpa using hb21) rfl) rfl fun u22 hu24 => .rhead (q := rows 1 u22 ((slc a0 (3 : Int).toNat (5 : Int).toNat).map (fun x => [B8 x]))) (fun _ hh => by simpa [slc_map] using hh) ?_
        obtain ⟨r25, hr26, h⟩ := bnd_eq h
        refine .opg (G.call call171 (.cons .t0 .nil) (S_blob_Int u22 (slc a0 (3 : Int).toNat (5 : Int).toNat) r25 hr26) .nil (.cons Mm.m0 .nil) (fun _ _ => rfl) (fun _ _ => rfl) rfl) rfl fun _ _ => .opp (P.bin .t0 .k .sub) rfl <| .opp (P.iac (i := 1) .t1 rfl .g2 runUnderlying288 sizeOf3 rfl rfl) rfl <| .opg (G.str .t1 .t0 .k0 (.mk (cs' := (A3_i64.cs ⟨IntKind.i64.wrap (r19 - 32768), IntKind.i64.wrap (r25 - 32768), 0⟩)) sizeOf3 rfl rfl rfl rfl)) rfl fun _ _ => .nil <| .inn <| .then <| .reg rfl <| .opp (P.bin (v := N 2) .g0 .k (.addc (by decide))) rfl <| .drop .k1 <| .opp (P.mov .t0) rfl <| .nil ?_
        refine .then <| .rd <| .seq <| .reg rfl <| .opp (P.bin (v := Bo true) .g0 .k (BinV.lss.boolc (by decide))) rfl <| .nil <| .then <| .seq <| .condT .t0 <| .skip <| .then <| .seq ?_
        refine .block <| .seq <| .reg rfl <| .opp (P.mov .g0) rfl <| .opp (P.asg .t0) rfl <| .nil <| .then <| .reg rfl <| .opp (P.mov .g0) rfl <| .opp (P.mov .g6) rfl <| .opp (P.mov .g2) rfl <| .opp (P.bin (v := N 4) .k .t0 (.mulc (by decide))) rfl ?_
        refine .opp (P.bin (v := N 5) .k .t0 (.addc (by decide))) rfl <| .opp (P.mov .t3) rfl <| .opp (P.bin (v := N 4) .k .t0 (.mulc (by decide))) rfl <| .opp (P.bin (v := N 7) .k .t0 (.addc (by decide))) rfl ?_
        obtain ⟨hb27, h⟩ := grd_eq h
        refine .capq Mm.m2 fun hc29 => .opg (G.slr (li := (some 5)) (hj := (some 7)) (mk := none) .t2 (.some .t1) (.some .t0) .none Mm.m2 hc29 runUnderlying70 sizeOf5 (by simpa using hb27) rfl) rfl fun u28 hu30 => .rhead (q := rows 1 u28 ((slc a0 (5 : Int).toNat (7 : Int).toNat).map (fun x => [B8 x]))) (fun _ hh => by simpa [slc_map] using hh) ?_
        obtain ⟨r31, hr32, h⟩ := bnd_eq h
        refine .opg (G.call call171 (.cons .t0 .nil) (S_blob_Int u28 (slc a0 (5 : Int).toNat (7 : Int).toNat) r31 hr32) .nil (.cons Mm.m0 .nil) (fun _ _ => rfl) (fun _ _ => rfl) rfl) rfl fun _ _ => .opp (P.bin .t0 .k .sub) rfl <| .opp (P.iac (i := 2) .t1 rfl .g2 runUnderlying288 sizeOf3 rfl rfl) rfl <| .opg (G.str .t1 .t0 .k0 (.mk (cs' := (A3_i64.cs ⟨IntKind.i64.wrap (r19 - 32768), IntKind.i64.wrap (r25 - 32768), IntKind.i64.wrap (r31 - 32768)⟩)) sizeOf3 rfl rfl rfl rfl)) rfl fun _ _ => .nil <| .inn <| .then <| .reg rfl <| .opp (P.bin (v := N 3) .g0 .k (.addc (by decide))) rfl <| .drop .k1 <| .opp (P.mov .t0) rfl <| .nil ?_
        refine .then <| .rd <| .seq <| .reg rfl <| .opp (P.bin (v := Bo false) .g0 .k (BinV.lss.boolc (by decide))) rfl <| .nil <| .then <| .seq <| .condF .t0 <| .exit <| .thx <| .thx ?_
        refine .inb <| .then <| .seq <| .drawl [blk b14 288 (A3_i64.cs ⟨IntKind.i64.wrap (r19 - 32768), IntKind.i64.wrap (r25 - 32768), IntKind.i64.wrap (r31 - 32768)⟩)] [rows 1 u28 ((slc a0 (5 : Int).toNat (7 : Int).toNat).map (fun x => [B8 x])), rows 1 u22 ((slc a0 (3 : Int).toNat (5 : Int).toNat).map (fun x => [B8 x])), rows 1 u16 ((slc a0 (1 : Int).toNat (3 : Int).toNat).map (fun x => [B8 x])), rows 1 v00 (a0.map (fun x => [B8 x]))] (Ls.of (.cons .k0 .nil)) (Rs.cons Mm.m0 (Rs.cons Mm.m1 (Rs.cons Mm.m2 (Rs.cons Mm.m3 Rs.nil)))) 24 (.on 0 .pu (.on 1 .pu (.on 4 .pu (.on 6 .pu (.on 8 .pu (.on 10 .pu (.on 11 .pu (.on 12 .pu (.on 13 .pu (.on 17 .pu (.on 18 .pu (.on 19 .pu (.on 20 .pu (.on 2 .ld (.on 3 .pu (.on 5 .ld (.on 7 .ld (.on 9 .ld (.on 14 .go (.on 15 .go (.on 16 .pu (.on 21 .go (.on 22 .go (.on 23 .go .nl)))))))))))))))))))))))) follows_mixed (.thn .body) (by kernel_rfl) <| .dpu rfl (.n rfl) (P.mov .g4) rfl rfl ?_
        obtain ⟨x36, hx37, h⟩ := bnd_eq h
        obtain ⟨i38, hi39, hx37⟩ := at_eq hx37
        have hi39_ : (0 : Int).toNat = i38 := by rw [hi39]; rfl
        refine .ixq Mm.m3 (map_get hx37) fun p33 q34 hq35 => .dpu rfl (.n rfl) (P.ixi (i := i38) .k hi39 .t0 hq35 runUnderlying70 sizeOf5) rfl rfl <| .dpu rfl (.n rfl) (P.iac (i := 0) .k rfl .g2 runUnderlying288 sizeOf3 rfl rfl) rfl rfl <| .dpu rfl (.n rfl) (P.iac (i := 1) .k rfl .g3 runUnderlying288 sizeOf3 rfl rfl) rfl rfl <| .dpu rfl (.n rfl) (P.iac (i := 2) .k rfl .t4 runUnderlying288 sizeOf3 rfl rfl) rfl rfl <| .dpu rfl (.n rfl) (P.mov .g7) rfl rfl <| .dpu rfl (.n rfl) (P.mov .g6) rfl rfl <| .dpu rfl (.n rfl) (P.bin .k .t0 .add) rfl rfl ?_
        obtain ⟨hb40, h⟩ := grd_eq h
        refine .slnq Mm.m3 fun hq44 => ?_
        simp only [List.length_map] at hq44
        refine .dpu rfl (.n rfl) (P.slp (li := (some 9)) (hj := (some (IntKind.i64.wrap (9 + r7)))) (mk := none) .t1 (.some .k) (.some .t0) .none hq44 runUnderlying70 sizeOf5 (by simpa using hb40)) rfl rfl <| .slgen Mm.m3 (by simpa using hb40) fun u41 => .rhead (q := rows 1 u41 ((slc a0 (9 : Int).toNat (IntKind.i64.wrap (9 + r7)).toNat).map (fun x => [B8 x]))) (fun _ hh => by simpa [slc_map] using hh) <| .dpu rfl (.n rfl) (P.mov .t8) rfl rfl <| .dpu rfl (.n rfl) (P.mov .t7) rfl rfl <| .dpu rfl (.n rfl) (P.bin .k .t0 .add) rfl rfl ?_
        obtain ⟨hb45, h⟩ := grd_eq h
        refine .slnq Mm.m4 fun hq49 => ?_
        simp only [List.length_map] at hq49
        refine .dpu rfl (.n rfl) (P.slp (li := (some (IntKind.i64.wrap (9 + r7)))) (hj := none) (mk := none) .t1 (.some .t0) .none .none hq49 runUnderlying70 sizeOf5 (by simpa using hb45)) rfl rfl <| .slgen Mm.m4 (by simpa using hb45) fun u46 => .rhead (q := rows 1 u46 ((slc a0 (IntKind.i64.wrap (9 + r7)).toNat a0.length).map (fun x => [B8 x]))) (fun _ hh => by simpa [slc_map] using hh) <| .dld rfl (.n rfl) (V.ldx0 (u := B8 x36) .t5 hq35 Mm.m3 (map_get hx37) (.one isAgg5 rfl)) (fun _ h => (h.imp (Ls.of (.cons .k0 .nil))).ro (Rs.cons Mm.m2 (Rs.cons Mm.m3 (Rs.cons Mm.m4 (Rs.cons Mm.m5 Rs.nil))))) rfl rfl <| .dpu rfl (.n rfl) (P.cnvIB8 (x := x36) .t0 runUnderlying5 runUnderlying3) rfl rfl <| .dld rfl (.n rfl) (V.ld (v := N (IntKind.i64.wrap (r19 - 32768))) .t5 .k0 (.one isAgg3 rfl)) (fun _ h => (h.imp (Ls.of (.cons .k0 .nil))).ro (Rs.cons Mm.m2 (Rs.cons Mm.m3 (Rs.cons Mm.m4 (Rs.cons Mm.m5 Rs.nil))))) rfl rfl <| .dld rfl (.n rfl) (V.ld (v := N (IntKind.i64.wrap (r25 - 32768))) .t5 .k0 (.one isAgg3 rfl)) (fun _ h => (h.imp (Ls.of (.cons .k0 .nil))).ro (Rs.cons Mm.m2 (Rs.cons Mm.m3 (Rs.cons Mm.m4 (Rs.cons Mm.m5 Rs.nil))))) rfl rfl <| .dld rfl (.n rfl) (V.ld (v := N (IntKind.i64.wrap (r31 - 32768))) .t5 .k0 (.one isAgg3 rfl)) (fun _ h => (h.imp (Ls.of (.cons .k0 .nil))).ro (Rs.cons Mm.m2 (Rs.cons Mm.m3 (Rs.cons Mm.m4 (Rs.cons Mm.m5 Rs.nil))))) rfl rfl <| .oner Mm.m1 fun ho51 => .dgo rfl (.n rfl) (G.bsl (cs := [u41]) .t5 runUnderlying116 sizeOf70 zeroValue70 (cells1 ho51) rfl rfl rfl rfl) (.inr fun _ _ _ h => (h.imp (Ls.of (.cons .k1 .nil))).ro (Rs.cons Mm.m2 (Rs.cons Mm.m3 (Rs.cons Mm.m4 (Rs.cons Mm.m5 Rs.nil))))) fun u50 _ => .frz .k0 ?_
        obtain ⟨r52, hr53, h⟩ := bnd_eq h
        refine .dgo rfl (.n rfl) (G.call call92 (.cons .t0 .nil) (S_blob_Cat_n1 u50 u41 (slc a0 (9 : Int).toNat (IntKind.i64.wrap (9 + r7)).toNat) r52 hr53) .nil (.cons Mm.m0 (.cons Mm.m2 .nil)) (fun _ _ => rfl) (fun _ _ => rfl) rfl) (.inr fun _ _ _ h => (h.imp (Ls.of (.cons .k1 .nil))).ro (Rs.cons Mm.m3 (Rs.cons Mm.m4 (Rs.cons Mm.m5 (Rs.cons Mm.m6 Rs.nil))))) fun u54 _ => .cell .k0 fun hv55 => .dpu rfl (.n rfl) (P.bld (v := Ag (api_Step.cs ⟨(x36.toNat : Int), IntKind.i64.wrap (r19 - 32768), IntKind.i64.wrap (r25 - 32768), IntKind.i64.wrap (r31 - 32768), []⟩ u54)) (.cons .t4 (.cons .t3 (.cons .t2 (.cons .t1 (.cons .t0 .nil))))) (bld_run zeroValue72 runUnderlying72 pl_72 (by obtain ⟨_, _, _, rfl⟩ := hv55; kernel_rfl))) rfl rfl <| .onel .k0 fun ho56 => .dgo rfl (.n rfl) (G.str .t0 .g2 .k2 (.mk (cs' := (api_Step.cs ⟨(x36.toNat : Int), IntKind.i64.wrap (r19 - 32768), IntKind.i64.wrap (r25 - 32768), IntKind.i64.wrap (r31 - 32768), []⟩ u54)) sizeOf72 rfl (onez_72 _ ho56) rfl rfl)) (.inr fun _ _ _ h => (h.imp (Ls.of (.cons .k2 .nil))).ro (Rs.cons Mm.m3 (Rs.cons Mm.m4 (Rs.cons Mm.m5 (Rs.cons Mm.m6 Rs.nil))))) fun _ _ => .dgo rfl (.n rfl) (OpV.g (OpP.toV (P.asg .t0)) rfl) (.inr fun _ _ _ h => (h.imp (Ls.of (.cons .k2 .nil))).ro (Rs.cons Mm.m3 (Rs.cons Mm.m4 (Rs.cons Mm.m5 (Rs.cons Mm.m6 Rs.nil))))) fun _ _ => .dgo rfl (.n rfl) (OpV.g (OpP.toV (P.asg .k)) rfl) (.inr fun _ _ _ h => (h.imp (Ls.of (.cons .k2 .nil))).ro (Rs.cons Mm.m3 (Rs.cons Mm.m4 (Rs.cons Mm.m5 (Rs.cons Mm.m6 Rs.nil))))) fun _ _ => .dnil <| .then <| .ret ?_
        cases h
        exact .finw ⟨u54, u46⟩ (.r3 rfl (.cell .g3 .k0 (.agg isAgg72 sizeOf72 rfl rfl)) (.tmp .g1) (.tmp .g0)) trivial (Ls.of (.cons .k1 .nil)) (.cons Mm.m1 .nil)
attribute [irreducible] script_next
noncomputable def script_Read (a0 : List UInt8) : Option ((List api_Step) × Int) :=
  if (decide ((a0.length : Int) > 8192)) = true then (some ((([] : List api_Step), 5))) else (Option.bind (loopW (fun (s2 : (List api_Step) × (List UInt8)) => if (decide ((s2.2.length : Int) > 0)) = true then (Option.bind (script_next s2.2) fun r12 => if (!r12.2.2) = true then (Option.map Ct.rt (some ((([] : List api_Step), 16)))) else (grd ((s2.1.length + ([r12.1] : List api_Step).length) * 56 ≤ 140737488355328) <| some (.nx (((s2.1 ++ ([r12.1] : List api_Step)), r12.2.1))))) else (some (.br (s2.1, s2.2)))) ([], a0)) fun o4 => Lo.on o4 fun (s2 : (List api_Step) × (List UInt8)) => if (decide ((s2.1.length : Int) > 512)) = true then (some ((([] : List api_Step), 3))) else (some (s2.1, 0)))
set_option maxRecDepth 20000 in
set_option maxHeartbeats 8000000 in
theorem S_script_Read (v00 : Value) (a0 : List UInt8) (r : (List api_Step) × Int) (h : script_Read a0 = some r) :
    SpecF Tryz.prog 57 [v00] [] [rows 1 v00 (a0.map (fun x => [B8 x]))] (fun z : Value × List Value => True) (fun z => Tu [z.1, N r.2]) (fun z M => lst 72 5 z.1 (List.zipWith api_Step.cs r.1 z.2) ::  M) (fun z M => gz api_Step.g r.1 z.2 ::  M) := by
  refine .of func57 rfl ntmps57 rfl fun w0 D0 G0 => ?_
  unfold script_Read at h
  refine .seq <| .reg rfl <| .op0 (OpP.toV (P.asg .k)) rfl <| .op0 (OpP.toV (P.asg .k)) rfl <| .nil <| .then <| .seq <| .reg rfl <| .opp (P.asg .k) rfl <| .nil <| .then <| .seq ?_
  refine .seq <| .reg rfl <| .opp (P.mov .g1) rfl <| .op (V.lnr (n := a0.length) .t0 Mm.m0 map_len runUnderlying70) rfl <| .opp (P.bin .t0 .k .gtr) rfl <| .nil <| .then <| .cond .t0 (fun c1 => ?_) (fun c1 => ?_)
  · rw [if_pos c1] at h
    refine .seq <| .reg rfl <| .opp (P.asg .k) rfl <| .opp (P.asg .k) rfl <| .nil <| .then <| .ret <| .thr ?_
    cases h
    exact .lnil 72 5 <| .gzn (G := api_Step.g) <| .finw ⟨nilSl, []⟩ (.r2 rfl (.tmp .g1) (.tmp .g0)) trivial (Ls.of (.cons .k0 .nil)) (.cons Mm.m0 .nil)
  · rw [if_neg (ne_true_of_eq_false c1)] at h
    refine .skip <| .then <| .seq <| .block <| .lnil 72 5 <| .gzn (G := api_Step.g) ?_
    obtain ⟨o4, ho5, h⟩ := bnd_eq h
    refine .loopW (γ := Value × Value × List Value) (fun (s2 : (List api_Step) × (List UInt8)) z3 => [(4, z3.1), (0, z3.2.1)]) (fun (s2 : (List api_Step) × (List UInt8)) z3 => [lst 72 5 z3.1 (List.zipWith api_Step.cs s2.1 z3.2.2)]) (fun (s2 : (List api_Step) × (List UInt8)) z3 => [gz api_Step.g s2.1 z3.2.2, rows 1 z3.2.1 (s2.2.map (fun x => [B8 x])), rows 1 v00 (a0.map (fun x => [B8 x]))]) ⟨nilSl, v00, []⟩ ho5 (.cons Mm.m0 (.cons Mm.m1 .nil)) (.of (.cons .k0 .nil)) (.cons Mm.m0 (.cons Mm.m1 (.cons Mm.m1 .nil))) (fun n10 s2 z3 hr8 => ?_)
    obtain ⟨ct9, hc6, hn7⟩ := loopK_at hr8
    refine .seq <| .seq <| .reg rfl <| .opp (P.mov .g1) rfl <| .op (V.lnr (n := s2.2.length) .t0 Mm.m1 map_len runUnderlying70) rfl <| .opp (P.bin .t0 .k .gtr) rfl <| .nil <| .then <| .cond .t0 (fun c11 => ?_) (fun c11 => ?_)
    · rw [if_pos c11] at hc6
      refine .skip <| .then <| .block <| .seq <| .reg rfl <| .opp (P.mov .t1) rfl ?_
      obtain ⟨r12, hr13, hc6⟩ := bnd_eq hc6
      refine .opg (G.call call108 (.cons .t0 .nil) (S_script_next z3.2.1 s2.2 r12 hr13) .nil (.cons Mm.m1 .nil) (fun _ _ => rfl) (fun _ _ => rfl) rfl) rfl fun ⟨u14, u15⟩ _ => .opp (P.mov .t0) rfl <| .opp (P.ext (v := Ag (api_Step.cs r12.1 u14)) .g0 rfl) rfl <| .opp (P.ext (v := u15) .g1 rfl) rfl <| .opp (P.ext (v := Bo r12.2.2) .t2 rfl) rfl <| .opx (X.alc (cs := (api_Step.cs ⟨0, 0, 0, 0, []⟩ nilSl)) zeroValue72 rfl) rfl fun b16 => .onel .k1 fun ho17 => .opg (G.str .t3 .g0 .k0 (.mk (cs' := (api_Step.cs r12.1 u14)) sizeOf72 rfl (onez_72 (r12.1 : api_Step) ho17) rfl rfl)) rfl fun _ _ => .opp (P.asg .t2) rfl <| .opp (P.asg .t2) rfl <| .nil <| .then ?_
      refine .seq <| .seq <| .reg rfl <| .opp (P.mov .t0) rfl <| .opp (P.not .t0) rfl <| .nil <| .then <| .cond .t0 (fun c18 => ?_) (fun c18 => ?_)
      · rw [if_pos c18] at hc6
        refine .seq <| .reg rfl <| .opp (P.asg .k) rfl <| .opp (P.asg .k) rfl <| .nil <| .then <| .ret <| .thr <| .inr ?_
        obtain ⟨x19, hx20, rfl⟩ := map_rt hc6
        obtain rfl := hn7
        obtain rfl := rt_on h
        refine .thr <| .inr <| .thr ?_
        cases hx20
        exact .lnil 72 5 <| .gzn (G := api_Step.g) <| .finw ⟨nilSl, []⟩ (.r2 rfl (.tmp .g1) (.tmp .g0)) trivial (Ls.of (.cons .k0 .nil)) (.cons Mm.m0 .nil)
      · rw [if_neg (ne_true_of_eq_false c18)] at hc6
        refine .skip <| .then <| .reg rfl <| .opp (P.mov .g2) rfl <| .op (V.ld (v := Ag (api_Step.cs r12.1 u14)) .t2 .k0 (.agg isAgg72 sizeOf72 rfl rfl)) rfl <| .opg (G.bsl (cs := (api_Step.cs r12.1 u14)) .t0 runUnderlying138 sizeOf72 zeroValue72 rfl rfl rfl rfl rfl) rfl fun u21 _ => .gzl Mm.m1 fun hz23 => .frz .k2 <| .gzn (G := api_Step.g) <| .gzc (x := r12.1) (z := u14) Mm.m0 rfl <| .gzo (D := api_Step.cs) Mm.m0 (fun _ _ _ h => rows_one h) (fun x z h => onez_72 x h) fun ho24 => .gza Mm.m3 Mm.m0 ?_
        obtain ⟨hb25, hc6⟩ := grd_eq hc6
        refine .opg (G.app (by_ := 56) .t1 .t0 .k2 (.inr (.inr ⟨_, Mm.m0⟩)) runUnderlying138 runUnderlying138 sizeOf72 typeInfo72 rfl rfl zeroValue72 rfl ho24 (by simpa [zip_len hz23] using hb25) rfl) rfl fun u22 _ => .conseq .k0 (q := lst 72 5 u22 (List.zipWith api_Step.cs (s2.1 ++ ([r12.1] : List api_Step)) (z3.2.2 ++ [u14]))) (fun _ hh => by simpa [zip_app hz23] using hh) <| .opp (P.mov .t1) rfl <| .drop .k2 <| .opp (P.asg .t1) rfl <| .opp (P.asg .t1) rfl <| .nil <| .inn ?_
        cases hc6
        obtain ⟨m26, hm27, hn7⟩ := hn7
        exact .rdW (((s2.1 ++ ([r12.1] : List api_Step)), r12.2.1)) ⟨u22, u15, (z3.2.2 ++ [u14])⟩ hm27 hn7 (.cons Mm.m1 (.cons Mm.m0 .nil)) (.of (.cons .k0 .nil)) (.cons Mm.m0 (.cons Mm.m3 (.cons Mm.m6 .nil)))
    · rw [if_neg (ne_true_of_eq_false c11)] at hc6
      refine .exit <| .thx ?_
      cases hc6
      refine .told (γ := Value × Value × List Value) h hn7 (fun (s2 : (List api_Step) × (List UInt8)) z3 => [(4, z3.1), (0, z3.2.1)]) (fun (s2 : (List api_Step) × (List UInt8)) z3 => [lst 72 5 z3.1 (List.zipWith api_Step.cs s2.1 z3.2.2)]) (fun (s2 : (List api_Step) × (List UInt8)) z3 => [gz api_Step.g s2.1 z3.2.2, rows 1 z3.2.1 (s2.2.map (fun x => [B8 x])), rows 1 v00 (a0.map (fun x => [B8 x]))]) ⟨z3.1, z3.2.1, z3.2.2⟩ (.cons Mm.m0 (.cons Mm.m1 .nil)) (.of (.cons .k0 .nil)) (.cons Mm.m0 (.cons Mm.m1 (.cons Mm.m2 .nil))) (fun s2 z3 h' => ?_)
      replace h := h'
      refine .thx <| .inb <| .then <| .seq <| .seq <| .reg rfl <| .opp (P.mov .g0) rfl <| .gzl Mm.m0 fun hz28 => .op (V.lnl (n := s2.1.length) .t0 .k0 (zip_len hz28) runUnderlying138) rfl <| .opp (P.bin .t0 .k .gtr) rfl <| .nil <| .then ?_
      refine .cond .t0 (fun c29 => ?_) (fun c29 => ?_)
      · rw [if_pos c29] at h
        refine .seq <| .reg rfl <| .opp (P.asg .k) rfl <| .opp (P.asg .k) rfl <| .nil <| .then <| .ret <| .thr ?_
        cases h
        exact .lnil 72 5 <| .gzn (G := api_Step.g) <| .finw ⟨nilSl, []⟩ (.r2 rfl (.tmp .g1) (.tmp .g0)) trivial (Ls.of (.cons .k0 .nil)) (.cons Mm.m0 .nil)
      · rw [if_neg (ne_true_of_eq_false c29)] at h
        refine .skip <| .then <| .seq <| .reg rfl <| .opp (P.mov .t0) rfl <| .opp (P.asg .t0) rfl <| .opp (P.asg .k) rfl <| .nil <| .then <| .ret ?_
        cases h
        exact .finw ⟨z3.1, z3.2.2⟩ (.r2 rfl (.tmp .g1) (.tmp .g0)) trivial (Ls.of (.cons .k0 .nil)) (.cons Mm.m0 .nil)
attribute [irreducible] script_Read
noncomputable def purse_Even (a0 : UInt64) : purse_Book :=
  ⟨⟨(wide_Of a0), (wide_Of a0)⟩, ⟨(wide_Of a0), (wide_Of a0)⟩, ⟨(wide_Of a0), (wide_Of a0)⟩, ⟨(wide_Of a0), (wide_Of a0)⟩, ⟨(wide_Of a0), (wide_Of a0)⟩, ⟨(wide_Of a0), (wide_Of a0)⟩, ⟨(wide_Of a0), (wide_Of a0)⟩, ⟨(wide_Of a0), (wide_Of a0)⟩⟩
set_option maxRecDepth 20000 in
set_option maxHeartbeats 8000000 in
theorem S_purse_Even (a0 : UInt64) (r : purse_Book) (h : purse_Even a0 = r) :
    SpecF Tryz.prog 68 [U a0] [] [] (fun z : Unit => True) (fun z => Ag (purse_Book.cs r)) (fun z M =>  M) (fun z M =>  M) := by
  refine .of func68 rfl ntmps68 rfl fun w0 D0 G0 => ?_
  unfold purse_Even at h
  refine .seq <| .reg rfl <| .opx (X.alc (cs := (purse_Book.cs ⟨⟨⟨0, 0, 0, 0⟩, ⟨0, 0, 0, 0⟩⟩, ⟨⟨0, 0, 0, 0⟩, ⟨0, 0, 0, 0⟩⟩, ⟨⟨0, 0, 0, 0⟩, ⟨0, 0, 0, 0⟩⟩, ⟨⟨0, 0, 0, 0⟩, ⟨0, 0, 0, 0⟩⟩, ⟨⟨0, 0, 0, 0⟩, ⟨0, 0, 0, 0⟩⟩, ⟨⟨0, 0, 0, 0⟩, ⟨0, 0, 0, 0⟩⟩, ⟨⟨0, 0, 0, 0⟩, ⟨0, 0, 0, 0⟩⟩, ⟨⟨0, 0, 0, 0⟩, ⟨0, 0, 0, 0⟩⟩⟩)) zeroValue86 rfl) rfl fun b1 => .nil <| .then <| .seq <| .reg rfl <| .opx (X.alc (cs := (purse_Book.cs ⟨⟨⟨0, 0, 0, 0⟩, ⟨0, 0, 0, 0⟩⟩, ⟨⟨0, 0, 0, 0⟩, ⟨0, 0, 0, 0⟩⟩, ⟨⟨0, 0, 0, 0⟩, ⟨0, 0, 0, 0⟩⟩, ⟨⟨0, 0, 0, 0⟩, ⟨0, 0, 0, 0⟩⟩, ⟨⟨0, 0, 0, 0⟩, ⟨0, 0, 0, 0⟩⟩, ⟨⟨0, 0, 0, 0⟩, ⟨0, 0, 0, 0⟩⟩, ⟨⟨0, 0, 0, 0⟩, ⟨0, 0, 0, 0⟩⟩, ⟨⟨0, 0, 0, 0⟩, ⟨0, 0, 0, 0⟩⟩⟩)) zeroValue86 rfl) rfl fun b2 => .nil <| .then <| .seq <| .seq ?_
  refine .reg rfl <| .opp (P.mov .k) rfl <| .nil <| .then <| .block <| .rounds 9 <| .rd <| .seq <| .reg rfl <| .opp (P.bin (v := Bo true) .g0 .k (BinV.lss.boolc (by decide))) rfl <| .nil <| .then ?_
  refine .seq <| .condT .t0 <| .skip <| .then <| .seq <| .block <| .seq <| .reg rfl <| .opp (P.mov .g0) rfl <| .opp (P.asg .t0) rfl <| .nil <| .then ?_
  refine .seq <| .reg rfl <| .opp (P.mov .k) rfl <| .nil <| .then <| .block <| .rounds 3 <| .rd <| .seq <| .reg rfl <| .opp (P.bin (v := Bo true) .g0 .k (BinV.lss.boolc (by decide))) rfl <| .nil ?_
  refine .then <| .seq <| .condT .t0 <| .skip <| .then <| .seq <| .block <| .seq <| .reg rfl <| .opp (P.mov .g0) rfl <| .opp (P.asg .t0) rfl <| .nil ?_
  refine .then <| .drawl [blk b1 86 (purse_Book.cs ⟨⟨⟨0, 0, 0, 0⟩, ⟨0, 0, 0, 0⟩⟩, ⟨⟨0, 0, 0, 0⟩, ⟨0, 0, 0, 0⟩⟩, ⟨⟨0, 0, 0, 0⟩, ⟨0, 0, 0, 0⟩⟩, ⟨⟨0, 0, 0, 0⟩, ⟨0, 0, 0, 0⟩⟩, ⟨⟨0, 0, 0, 0⟩, ⟨0, 0, 0, 0⟩⟩, ⟨⟨0, 0, 0, 0⟩, ⟨0, 0, 0, 0⟩⟩, ⟨⟨0, 0, 0, 0⟩, ⟨0, 0, 0, 0⟩⟩, ⟨⟨0, 0, 0, 0⟩, ⟨0, 0, 0, 0⟩⟩⟩)] [] (Ls.of (.cons .k1 .nil)) Rs.nil 7 (.on 0 .pu (.on 1 .pu (.on 2 .pu (.on 4 .pu (.on 3 .go (.on 5 .pu (.on 6 .go .nl))))))) follows_mixed (.inb (.thn (.thn (.inb (.inb (.thn (.thn (.inb (.thn .body))))))))) (by kernel_rfl) <| .dpu rfl (.n rfl) (P.mov .g2) rfl rfl <| .dpu rfl (.n rfl) (P.mov .t1) rfl rfl <| .dpu rfl (.n rfl) (P.mov .g7) rfl rfl <| .dpu rfl (.n rfl) (P.iac (i := 0) .t2 rfl .g5 runUnderlying86 sizeOf84 rfl rfl) rfl rfl <| .dgo rfl (.n rfl) (G.call call38 (.cons .t1 .nil) (S_wide_Of a0 _ rfl) .nil .nil (fun _ _ => rfl) (fun _ _ => rfl) rfl) (.inr fun _ _ _ h => (h.imp (Ls.of (.cons .k1 .nil))).ro Rs.nil) fun _ _ => .dpu rfl (.n rfl) (P.iac (i := 0) .t2 rfl .t1 runUnderlying84 sizeOf77 rfl rfl) rfl rfl <| .dgo rfl (.n rfl) (G.str .t1 .t0 .k0 (.mk (cs' := (purse_Book.cs ⟨⟨(wide_Of a0), ⟨0, 0, 0, 0⟩⟩, ⟨⟨0, 0, 0, 0⟩, ⟨0, 0, 0, 0⟩⟩, ⟨⟨0, 0, 0, 0⟩, ⟨0, 0, 0, 0⟩⟩, ⟨⟨0, 0, 0, 0⟩, ⟨0, 0, 0, 0⟩⟩, ⟨⟨0, 0, 0, 0⟩, ⟨0, 0, 0, 0⟩⟩, ⟨⟨0, 0, 0, 0⟩, ⟨0, 0, 0, 0⟩⟩, ⟨⟨0, 0, 0, 0⟩, ⟨0, 0, 0, 0⟩⟩, ⟨⟨0, 0, 0, 0⟩, ⟨0, 0, 0, 0⟩⟩⟩)) sizeOf77 rfl rfl rfl rfl)) (.inr fun _ _ _ h => (h.imp (Ls.of (.cons .k1 .nil))).ro Rs.nil) fun _ _ => .dnil <| .inn <| .then ?_
  refine .reg rfl <| .opp (P.bin (v := N 1) .g0 .k (.addc (by decide))) rfl <| .drop .k1 <| .opp (P.mov .t0) rfl <| .nil <| .then <| .rd <| .seq <| .reg rfl <| .opp (P.bin (v := Bo true) .g0 .k (BinV.lss.boolc (by decide))) rfl <| .nil <| .then ?_
  refine .seq <| .condT .t0 <| .skip <| .then <| .seq <| .block <| .seq <| .reg rfl <| .opp (P.mov .g0) rfl <| .opp (P.asg .t0) rfl <| .nil <| .then ?_
  refine .drawl [blk b1 86 (purse_Book.cs ⟨⟨⟨0, 0, 0, 0⟩, ⟨0, 0, 0, 0⟩⟩, ⟨⟨0, 0, 0, 0⟩, ⟨0, 0, 0, 0⟩⟩, ⟨⟨0, 0, 0, 0⟩, ⟨0, 0, 0, 0⟩⟩, ⟨⟨0, 0, 0, 0⟩, ⟨0, 0, 0, 0⟩⟩, ⟨⟨0, 0, 0, 0⟩, ⟨0, 0, 0, 0⟩⟩, ⟨⟨0, 0, 0, 0⟩, ⟨0, 0, 0, 0⟩⟩, ⟨⟨0, 0, 0, 0⟩, ⟨0, 0, 0, 0⟩⟩, ⟨⟨0, 0, 0, 0⟩, ⟨0, 0, 0, 0⟩⟩⟩)] [] (Ls.of (.cons .k1 .nil)) Rs.nil 7 (.on 0 .pu (.on 1 .pu (.on 2 .pu (.on 4 .pu (.on 3 .go (.on 5 .pu (.on 6 .go .nl))))))) follows_mixed (.inb (.thn (.thn (.inb (.inb (.thn (.thn (.inb (.thn .body))))))))) (by kernel_rfl) <| .dpu rfl (.n rfl) (P.mov .g2) rfl rfl <| .dpu rfl (.n rfl) (P.mov .t1) rfl rfl <| .dpu rfl (.n rfl) (P.mov .g7) rfl rfl <| .dpu rfl (.n rfl) (P.iac (i := 0) .t2 rfl .g5 runUnderlying86 sizeOf84 rfl rfl) rfl rfl <| .dgo rfl (.n rfl) (G.call call38 (.cons .t1 .nil) (S_wide_Of a0 _ rfl) .nil .nil (fun _ _ => rfl) (fun _ _ => rfl) rfl) (.inr fun _ _ _ h => (h.imp (Ls.of (.cons .k1 .nil))).ro Rs.nil) fun _ _ => .dpu rfl (.n rfl) (P.iac (i := 1) .t2 rfl .t1 runUnderlying84 sizeOf77 rfl rfl) rfl rfl <| .dgo rfl (.n rfl) (G.str .t1 .t0 .k0 (.mk (cs' := (purse_Book.cs ⟨⟨(wide_Of a0), (wide_Of a0)⟩, ⟨⟨0, 0, 0, 0⟩, ⟨0, 0, 0, 0⟩⟩, ⟨⟨0, 0, 0, 0⟩, ⟨0, 0, 0, 0⟩⟩, ⟨⟨0, 0, 0, 0⟩, ⟨0, 0, 0, 0⟩⟩, ⟨⟨0, 0, 0, 0⟩, ⟨0, 0, 0, 0⟩⟩, ⟨⟨0, 0, 0, 0⟩, ⟨0, 0, 0, 0⟩⟩, ⟨⟨0, 0, 0, 0⟩, ⟨0, 0, 0, 0⟩⟩, ⟨⟨0, 0, 0, 0⟩, ⟨0, 0, 0, 0⟩⟩⟩)) sizeOf77 rfl rfl rfl rfl)) (.inr fun _ _ _ h => (h.imp (Ls.of (.cons .k1 .nil))).ro Rs.nil) fun _ _ => .dnil <| .inn <| .then <| .reg rfl ?_
  refine .opp (P.bin (v := N 2) .g0 .k (.addc (by decide))) rfl <| .drop .k1 <| .opp (P.mov .t0) rfl <| .nil <| .then <| .rd <| .seq <| .reg rfl <| .opp (P.bin (v := Bo false) .g0 .k (BinV.lss.boolc (by decide))) rfl <| .nil <| .then <| .seq ?_
  refine .condF .t0 <| .exit <| .thx <| .thx <| .inb <| .inn <| .then <| .reg rfl <| .opp (P.bin (v := N 1) .g2 .k (.addc (by decide))) rfl <| .drop .k3 <| .opp (P.mov .t0) rfl <| .nil ?_
  refine .then <| .rd <| .seq <| .reg rfl <| .opp (P.bin (v := Bo true) .g0 .k (BinV.lss.boolc (by decide))) rfl <| .nil <| .then <| .seq <| .condT .t0 <| .skip <| .then <| .seq ?_
  refine .block <| .seq <| .reg rfl <| .opp (P.mov .g0) rfl <| .drop .k3 <| .opp (P.asg .t0) rfl <| .nil <| .then <| .seq <| .reg rfl <| .drop .k2 <| .opp (P.mov .k) rfl ?_
  refine .nil <| .then <| .block <| .rounds 3 <| .rd <| .seq <| .reg rfl <| .opp (P.bin (v := Bo true) .g0 .k (BinV.lss.boolc (by decide))) rfl <| .nil <| .then <| .seq <| .condT .t0 ?_
  refine .skip <| .then <| .seq <| .block <| .seq <| .reg rfl <| .opp (P.mov .g0) rfl <| .opp (P.asg .t0) rfl <| .nil <| .then <| .drawl [blk b1 86 (purse_Book.cs ⟨⟨⟨0, 0, 0, 0⟩, ⟨0, 0, 0, 0⟩⟩, ⟨⟨0, 0, 0, 0⟩, ⟨0, 0, 0, 0⟩⟩, ⟨⟨0, 0, 0, 0⟩, ⟨0, 0, 0, 0⟩⟩, ⟨⟨0, 0, 0, 0⟩, ⟨0, 0, 0, 0⟩⟩, ⟨⟨0, 0, 0, 0⟩, ⟨0, 0, 0, 0⟩⟩, ⟨⟨0, 0, 0, 0⟩, ⟨0, 0, 0, 0⟩⟩, ⟨⟨0, 0, 0, 0⟩, ⟨0, 0, 0, 0⟩⟩, ⟨⟨0, 0, 0, 0⟩, ⟨0, 0, 0, 0⟩⟩⟩)] [] (Ls.of (.cons .k1 .nil)) Rs.nil 7 (.on 0 .pu (.on 1 .pu (.on 2 .pu (.on 4 .pu (.on 3 .go (.on 5 .pu (.on 6 .go .nl))))))) follows_mixed (.inb (.thn (.thn (.inb (.inb (.thn (.thn (.inb (.thn .body))))))))) (by kernel_rfl) <| .dpu rfl (.n rfl) (P.mov .g2) rfl rfl ?_
  refine .dpu rfl (.n rfl) (P.mov .t1) rfl rfl <| .dpu rfl (.n rfl) (P.mov .g7) rfl rfl <| .dpu rfl (.n rfl) (P.iac (i := 1) .t2 rfl .g5 runUnderlying86 sizeOf84 rfl rfl) rfl rfl <| .dgo rfl (.n rfl) (G.call call38 (.cons .t1 .nil) (S_wide_Of a0 _ rfl) .nil .nil (fun _ _ => rfl) (fun _ _ => rfl) rfl) (.inr fun _ _ _ h => (h.imp (Ls.of (.cons .k1 .nil))).ro Rs.nil) fun _ _ => .dpu rfl (.n rfl) (P.iac (i := 0) .t2 rfl .t1 runUnderlying84 sizeOf77 rfl rfl) rfl rfl <| .dgo rfl (.n rfl) (G.str .t1 .t0 .k0 (.mk (cs' := (purse_Book.cs ⟨⟨(wide_Of a0), (wide_Of a0)⟩, ⟨(wide_Of a0), ⟨0, 0, 0, 0⟩⟩, ⟨⟨0, 0, 0, 0⟩, ⟨0, 0, 0, 0⟩⟩, ⟨⟨0, 0, 0, 0⟩, ⟨0, 0, 0, 0⟩⟩, ⟨⟨0, 0, 0, 0⟩, ⟨0, 0, 0, 0⟩⟩, ⟨⟨0, 0, 0, 0⟩, ⟨0, 0, 0, 0⟩⟩, ⟨⟨0, 0, 0, 0⟩, ⟨0, 0, 0, 0⟩⟩, ⟨⟨0, 0, 0, 0⟩, ⟨0, 0, 0, 0⟩⟩⟩)) sizeOf77 rfl rfl rfl rfl)) (.inr fun _ _ _ h => (h.imp (Ls.of (.cons .k1 .nil))).ro Rs.nil) fun _ _ => .dnil <| .inn <| .then <| .reg rfl <| .opp (P.bin (v := N 1) .g0 .k (.addc (by decide))) rfl <| .drop .k1 ?_
  refine .opp (P.mov .t0) rfl <| .nil <| .then <| .rd <| .seq <| .reg rfl <| .opp (P.bin (v := Bo true) .g0 .k (BinV.lss.boolc (by decide))) rfl <| .nil <| .then <| .seq <| .condT .t0 <| .skip ?_
  refine .then <| .seq <| .block <| .seq <| .reg rfl <| .opp (P.mov .g0) rfl <| .opp (P.asg .t0) rfl <| .nil <| .then <| .drawl [blk b1 86 (purse_Book.cs ⟨⟨⟨0, 0, 0, 0⟩, ⟨0, 0, 0, 0⟩⟩, ⟨⟨0, 0, 0, 0⟩, ⟨0, 0, 0, 0⟩⟩, ⟨⟨0, 0, 0, 0⟩, ⟨0, 0, 0, 0⟩⟩, ⟨⟨0, 0, 0, 0⟩, ⟨0, 0, 0, 0⟩⟩, ⟨⟨0, 0, 0, 0⟩, ⟨0, 0, 0, 0⟩⟩, ⟨⟨0, 0, 0, 0⟩, ⟨0, 0, 0, 0⟩⟩, ⟨⟨0, 0, 0, 0⟩, ⟨0, 0, 0, 0⟩⟩, ⟨⟨0, 0, 0, 0⟩, ⟨0, 0, 0, 0⟩⟩⟩)] [] (Ls.of (.cons .k1 .nil)) Rs.nil 7 (.on 0 .pu (.on 1 .pu (.on 2 .pu (.on 4 .pu (.on 3 .go (.on 5 .pu (.on 6 .go .nl))))))) follows_mixed (.inb (.thn (.thn (.inb (.inb (.thn (.thn (.inb (.thn .body))))))))) (by kernel_rfl) <| .dpu rfl (.n rfl) (P.mov .g2) rfl rfl <| .dpu rfl (.n rfl) (P.mov .t1) rfl rfl ?_
  refine .dpu rfl (.n rfl) (P.mov .g7) rfl rfl <| .dpu rfl (.n rfl) (P.iac (i := 1) .t2 rfl .g5 runUnderlying86 sizeOf84 rfl rfl) rfl rfl <| .dgo rfl (.n rfl) (G.call call38 (.cons .t1 .nil) (S_wide_Of a0 _ rfl) .nil .nil (fun _ _ => rfl) (fun _ _ => rfl) rfl) (.inr fun _ _ _ h => (h.imp (Ls.of (.cons .k1 .nil))).ro Rs.nil) fun _ _ => .dpu rfl (.n rfl) (P.iac (i := 1) .t2 rfl .t1 runUnderlying84 sizeOf77 rfl rfl) rfl rfl <| .dgo rfl (.n rfl) (G.str .t1 .t0 .k0 (.mk (cs' := (purse_Book.cs ⟨⟨(wide_Of a0), (wide_Of a0)⟩, ⟨(wide_Of a0), (wide_Of a0)⟩, ⟨⟨0, 0, 0, 0⟩, ⟨0, 0, 0, 0⟩⟩, ⟨⟨0, 0, 0, 0⟩, ⟨0, 0, 0, 0⟩⟩, ⟨⟨0, 0, 0, 0⟩, ⟨0, 0, 0, 0⟩⟩, ⟨⟨0, 0, 0, 0⟩, ⟨0, 0, 0, 0⟩⟩, ⟨⟨0, 0, 0, 0⟩, ⟨0, 0, 0, 0⟩⟩, ⟨⟨0, 0, 0, 0⟩, ⟨0, 0, 0, 0⟩⟩⟩)) sizeOf77 rfl rfl rfl rfl)) (.inr fun _ _ _ h => (h.imp (Ls.of (.cons .k1 .nil))).ro Rs.nil) fun _ _ => .dnil <| .inn <| .then <| .reg rfl <| .opp (P.bin (v := N 2) .g0 .k (.addc (by decide))) rfl <| .drop .k1 <| .opp (P.mov .t0) rfl ?_
  refine .nil <| .then <| .rd <| .seq <| .reg rfl <| .opp (P.bin (v := Bo false) .g0 .k (BinV.lss.boolc (by decide))) rfl <| .nil <| .then <| .seq <| .condF .t0 <| .exit <| .thx ?_
  refine .thx <| .inb <| .inn <| .then <| .reg rfl <| .opp (P.bin (v := N 2) .g2 .k (.addc (by decide))) rfl <| .drop .k3 <| .opp (P.mov .t0) rfl <| .nil <| .then <| .rd <| .seq ?_
  refine .reg rfl <| .opp (P.bin (v := Bo true) .g0 .k (BinV.lss.boolc (by decide))) rfl <| .nil <| .then <| .seq <| .condT .t0 <| .skip <| .then <| .seq <| .block <| .seq <| .reg rfl ?_
  refine .opp (P.mov .g0) rfl <| .drop .k3 <| .opp (P.asg .t0) rfl <| .nil <| .then <| .seq <| .reg rfl <| .drop .k2 <| .opp (P.mov .k) rfl <| .nil <| .then <| .block ?_
  refine .rounds 3 <| .rd <| .seq <| .reg rfl <| .opp (P.bin (v := Bo true) .g0 .k (BinV.lss.boolc (by decide))) rfl <| .nil <| .then <| .seq <| .condT .t0 <| .skip <| .then <| .seq ?_
  refine .block <| .seq <| .reg rfl <| .opp (P.mov .g0) rfl <| .opp (P.asg .t0) rfl <| .nil <| .then <| .drawl [blk b1 86 (purse_Book.cs ⟨⟨⟨0, 0, 0, 0⟩, ⟨0, 0, 0, 0⟩⟩, ⟨⟨0, 0, 0, 0⟩, ⟨0, 0, 0, 0⟩⟩, ⟨⟨0, 0, 0, 0⟩, ⟨0, 0, 0, 0⟩⟩, ⟨⟨0, 0, 0, 0⟩, ⟨0, 0, 0, 0⟩⟩, ⟨⟨0, 0, 0, 0⟩, ⟨0, 0, 0, 0⟩⟩, ⟨⟨0, 0, 0, 0⟩, ⟨0, 0, 0, 0⟩⟩, ⟨⟨0, 0, 0, 0⟩, ⟨0, 0, 0, 0⟩⟩, ⟨⟨0, 0, 0, 0⟩, ⟨0, 0, 0, 0⟩⟩⟩)] [] (Ls.of (.cons .k1 .nil)) Rs.nil 7 (.on 0 .pu (.on 1 .pu (.on 2 .pu (.on 4 .pu (.on 3 .go (.on 5 .pu (.on 6 .go .nl))))))) follows_mixed (.inb (.thn (.thn (.inb (.inb (.thn (.thn (.inb (.thn .body))))))))) (by kernel_rfl) <| .dpu rfl (.n rfl) (P.mov .g2) rfl rfl <| .dpu rfl (.n rfl) (P.mov .t1) rfl rfl <| .dpu rfl (.n rfl) (P.mov .g7) rfl rfl <| .dpu rfl (.n rfl) (P.iac (i := 2) .t2 rfl .g5 runUnderlying86 sizeOf84 rfl rfl) rfl rfl ?_
  refine .dgo rfl (.n rfl) (G.call call38 (.cons .t1 .nil) (S_wide_Of a0 _ rfl) .nil .nil (fun _ _ => rfl) (fun _ _ => rfl) rfl) (.inr fun _ _ _ h => (h.imp (Ls.of (.cons .k1 .nil))).ro Rs.nil) fun _ _ => .dpu rfl (.n rfl) (P.iac (i := 0) .t2 rfl .t1 runUnderlying84 sizeOf77 rfl rfl) rfl rfl <| .dgo rfl (.n rfl) (G.str .t1 .t0 .k0 (.mk (cs' := (purse_Book.cs ⟨⟨(wide_Of a0), (wide_Of a0)⟩, ⟨(wide_Of a0), (wide_Of a0)⟩, ⟨(wide_Of a0), ⟨0, 0, 0, 0⟩⟩, ⟨⟨0, 0, 0, 0⟩, ⟨0, 0, 0, 0⟩⟩, ⟨⟨0, 0, 0, 0⟩, ⟨0, 0, 0, 0⟩⟩, ⟨⟨0, 0, 0, 0⟩, ⟨0, 0, 0, 0⟩⟩, ⟨⟨0, 0, 0, 0⟩, ⟨0, 0, 0, 0⟩⟩, ⟨⟨0, 0, 0, 0⟩, ⟨0, 0, 0, 0⟩⟩⟩)) sizeOf77 rfl rfl rfl rfl)) (.inr fun _ _ _ h => (h.imp (Ls.of (.cons .k1 .nil))).ro Rs.nil) fun _ _ => .dnil <| .inn <| .then <| .reg rfl <| .opp (P.bin (v := N 1) .g0 .k (.addc (by decide))) rfl <| .drop .k1 <| .opp (P.mov .t0) rfl <| .nil <| .then ?_
  refine .rd <| .seq <| .reg rfl <| .opp (P.bin (v := Bo true) .g0 .k (BinV.lss.boolc (by decide))) rfl <| .nil <| .then <| .seq <| .condT .t0 <| .skip <| .then <| .seq <| .block ?_
  refine .seq <| .reg rfl <| .opp (P.mov .g0) rfl <| .opp (P.asg .t0) rfl <| .nil <| .then <| .drawl [blk b1 86 (purse_Book.cs ⟨⟨⟨0, 0, 0, 0⟩, ⟨0, 0, 0, 0⟩⟩, ⟨⟨0, 0, 0, 0⟩, ⟨0, 0, 0, 0⟩⟩, ⟨⟨0, 0, 0, 0⟩, ⟨0, 0, 0, 0⟩⟩, ⟨⟨0, 0, 0, 0⟩, ⟨0, 0, 0, 0⟩⟩, ⟨⟨0, 0, 0, 0⟩, ⟨0, 0, 0, 0⟩⟩, ⟨⟨0, 0, 0, 0⟩, ⟨0, 0, 0, 0⟩⟩, ⟨⟨0, 0, 0, 0⟩, ⟨0, 0, 0, 0⟩⟩, ⟨⟨0, 0, 0, 0⟩, ⟨0, 0, 0, 0⟩⟩⟩)] [] (Ls.of (.cons .k1 .nil)) Rs.nil 7 (.on 0 .pu (.on 1 .pu (.on 2 .pu (.on 4 .pu (.on 3 .go (.on 5 .pu (.on 6 .go .nl))))))) follows_mixed (.inb (.thn (.thn (.inb (.inb (.thn (.thn (.inb (.thn .body))))))))) (by kernel_rfl) <| .dpu rfl (.n rfl) (P.mov .g2) rfl rfl <| .dpu rfl (.n rfl) (P.mov .t1) rfl rfl <| .dpu rfl (.n rfl) (P.mov .g7) rfl rfl <| .dpu rfl (.n rfl) (P.iac (i := 2) .t2 rfl .g5 runUnderlying86 sizeOf84 rfl rfl) rfl rfl <| .dgo rfl (.n rfl) (G.call call38 (.cons .t1 .nil) (S_wide_Of a0 _ rfl) .nil .nil (fun _ _ => rfl) (fun _ _ => rfl) rfl) (.inr fun _ _ _ h => (h.imp (Ls.of (.cons .k1 .nil))).ro Rs.nil) fun _ _ => ?_
  refine .dpu rfl (.n rfl) (P.iac (i := 1) .t2 rfl .t1 runUnderlying84 sizeOf77 rfl rfl) rfl rfl <| .dgo rfl (.n rfl) (G.str .t1 .t0 .k0 (.mk (cs' := (purse_Book.cs ⟨⟨(wide_Of a0), (wide_Of a0)⟩, ⟨(wide_Of a0), (wide_Of a0)⟩, ⟨(wide_Of a0), (wide_Of a0)⟩, ⟨⟨0, 0, 0, 0⟩, ⟨0, 0, 0, 0⟩⟩, ⟨⟨0, 0, 0, 0⟩, ⟨0, 0, 0, 0⟩⟩, ⟨⟨0, 0, 0, 0⟩, ⟨0, 0, 0, 0⟩⟩, ⟨⟨0, 0, 0, 0⟩, ⟨0, 0, 0, 0⟩⟩, ⟨⟨0, 0, 0, 0⟩, ⟨0, 0, 0, 0⟩⟩⟩)) sizeOf77 rfl rfl rfl rfl)) (.inr fun _ _ _ h => (h.imp (Ls.of (.cons .k1 .nil))).ro Rs.nil) fun _ _ => .dnil <| .inn <| .then <| .reg rfl <| .opp (P.bin (v := N 2) .g0 .k (.addc (by decide))) rfl <| .drop .k1 <| .opp (P.mov .t0) rfl <| .nil <| .then <| .rd ?_
  refine .seq <| .reg rfl <| .opp (P.bin (v := Bo false) .g0 .k (BinV.lss.boolc (by decide))) rfl <| .nil <| .then <| .seq <| .condF .t0 <| .exit <| .thx <| .thx <| .inb <| .inn ?_
  refine .then <| .reg rfl <| .opp (P.bin (v := N 3) .g2 .k (.addc (by decide))) rfl <| .drop .k3 <| .opp (P.mov .t0) rfl <| .nil <| .then <| .rd <| .seq <| .reg rfl <| .opp (P.bin (v := Bo true) .g0 .k (BinV.lss.boolc (by decide))) rfl <| .nil ?_
  refine .then <| .seq <| .condT .t0 <| .skip <| .then <| .seq <| .block <| .seq <| .reg rfl <| .opp (P.mov .g0) rfl <| .drop .k3 <| .opp (P.asg .t0) rfl ?_
  refine .nil <| .then <| .seq <| .reg rfl <| .drop .k2 <| .opp (P.mov .k) rfl <| .nil <| .then <| .block <| .rounds 3 <| .rd <| .seq ?_
  refine .reg rfl <| .opp (P.bin (v := Bo true) .g0 .k (BinV.lss.boolc (by decide))) rfl <| .nil <| .then <| .seq <| .condT .t0 <| .skip <| .then <| .seq <| .block <| .seq <| .reg rfl ?_
  refine .opp (P.mov .g0) rfl <| .opp (P.asg .t0) rfl <| .nil <| .then <| .drawl [blk b1 86 (purse_Book.cs ⟨⟨⟨0, 0, 0, 0⟩, ⟨0, 0, 0, 0⟩⟩, ⟨⟨0, 0, 0, 0⟩, ⟨0, 0, 0, 0⟩⟩, ⟨⟨0, 0, 0, 0⟩, ⟨0, 0, 0, 0⟩⟩, ⟨⟨0, 0, 0, 0⟩, ⟨0, 0, 0, 0⟩⟩, ⟨⟨0, 0, 0, 0⟩, ⟨0, 0, 0, 0⟩⟩, ⟨⟨0, 0, 0, 0⟩, ⟨0, 0, 0, 0⟩⟩, ⟨⟨0, 0, 0, 0⟩, ⟨0, 0, 0, 0⟩⟩, ⟨⟨0, 0, 0, 0⟩, ⟨0, 0, 0, 0⟩⟩⟩)] [] (Ls.of (.cons .k1 .nil)) Rs.nil 7 (.on 0 .pu (.on 1 .pu (.on 2 .pu (.on 4 .pu (.on 3 .go (.on 5 .pu (.on 6 .go .nl))))))) follows_mixed (.inb (.thn (.thn (.inb (.inb (.thn (.thn (.inb (.thn .body))))))))) (by kernel_rfl) <| .dpu rfl (.n rfl) (P.mov .g2) rfl rfl <| .dpu rfl (.n rfl) (P.mov .t1) rfl rfl <| .dpu rfl (.n rfl) (P.mov .g7) rfl rfl <| .dpu rfl (.n rfl) (P.iac (i := 3) .t2 rfl .g5 runUnderlying86 sizeOf84 rfl rfl) rfl rfl <| .dgo rfl (.n rfl) (G.call call38 (.cons .t1 .nil) (S_wide_Of a0 _ rfl) .nil .nil (fun _ _ => rfl) (fun _ _ => rfl) rfl) (.inr fun _ _ _ h => (h.imp (Ls.of (.cons .k1 .nil))).ro Rs.nil) fun _ _ => .dpu rfl (.n rfl) (P.iac (i := 0) .t2 rfl .t1 runUnderlying84 sizeOf77 rfl rfl) rfl rfl <| .dgo rfl (.n rfl) (G.str .t1 .t0 .k0 (.mk (cs' := (purse_Book.cs ⟨⟨(wide_Of a0), (wide_Of a0)⟩, ⟨(wide_Of a0), (wide_Of a0)⟩, ⟨(wide_Of a0), (wide_Of a0)⟩, ⟨(wide_Of a0), ⟨0, 0, 0, 0⟩⟩, ⟨⟨0, 0, 0, 0⟩, ⟨0, 0, 0, 0⟩⟩, ⟨⟨0, 0, 0, 0⟩, ⟨0, 0, 0, 0⟩⟩, ⟨⟨0, 0, 0, 0⟩, ⟨0, 0, 0, 0⟩⟩, ⟨⟨0, 0, 0, 0⟩, ⟨0, 0, 0, 0⟩⟩⟩)) sizeOf77 rfl rfl rfl rfl)) (.inr fun _ _ _ h => (h.imp (Ls.of (.cons .k1 .nil))).ro Rs.nil) fun _ _ => ?_
  refine .dnil <| .inn <| .then <| .reg rfl <| .opp (P.bin (v := N 1) .g0 .k (.addc (by decide))) rfl <| .drop .k1 <| .opp (P.mov .t0) rfl <| .nil <| .then <| .rd <| .seq <| .reg rfl ?_
  refine .opp (P.bin (v := Bo true) .g0 .k (BinV.lss.boolc (by decide))) rfl <| .nil <| .then <| .seq <| .condT .t0 <| .skip <| .then <| .seq <| .block <| .seq <| .reg rfl <| .opp (P.mov .g0) rfl ?_
  refine .opp (P.asg .t0) rfl <| .nil <| .then <| .drawl [blk b1 86 (purse_Book.cs ⟨⟨⟨0, 0, 0, 0⟩, ⟨0, 0, 0, 0⟩⟩, ⟨⟨0, 0, 0, 0⟩, ⟨0, 0, 0, 0⟩⟩, ⟨⟨0, 0, 0, 0⟩, ⟨0, 0, 0, 0⟩⟩, ⟨⟨0, 0, 0, 0⟩, ⟨0, 0, 0, 0⟩⟩, ⟨⟨0, 0, 0, 0⟩, ⟨0, 0, 0, 0⟩⟩, ⟨⟨0, 0, 0, 0⟩, ⟨0, 0, 0, 0⟩⟩, ⟨⟨0, 0, 0, 0⟩, ⟨0, 0, 0, 0⟩⟩, ⟨⟨0, 0, 0, 0⟩, ⟨0, 0, 0, 0⟩⟩⟩)] [] (Ls.of (.cons .k1 .nil)) Rs.nil 7 (.on 0 .pu (.on 1 .pu (.on 2 .pu (.on 4 .pu (.on 3 .go (.on 5 .pu (.on 6 .go .nl))))))) follows_mixed (.inb (.thn (.thn (.inb (.inb (.thn (.thn (.inb (.thn .body))))))))) (by kernel_rfl) <| .dpu rfl (.n rfl) (P.mov .g2) rfl rfl <| .dpu rfl (.n rfl) (P.mov .t1) rfl rfl <| .dpu rfl (.n rfl) (P.mov .g7) rfl rfl <| .dpu rfl (.n rfl) (P.iac (i := 3) .t2 rfl .g5 runUnderlying86 sizeOf84 rfl rfl) rfl rfl <| .dgo rfl (.n rfl) (G.call call38 (.cons .t1 .nil) (S_wide_Of a0 _ rfl) .nil .nil (fun _ _ => rfl) (fun _ _ => rfl) rfl) (.inr fun _ _ _ h => (h.imp (Ls.of (.cons .k1 .nil))).ro Rs.nil) fun _ _ => .dpu rfl (.n rfl) (P.iac (i := 1) .t2 rfl .t1 runUnderlying84 sizeOf77 rfl rfl) rfl rfl <| .dgo rfl (.n rfl) (G.str .t1 .t0 .k0 (.mk (cs' := (purse_Book.cs ⟨⟨(wide_Of a0), (wide_Of a0)⟩, ⟨(wide_Of a0), (wide_Of a0)⟩, ⟨(wide_Of a0), (wide_Of a0)⟩, ⟨(wide_Of a0), (wide_Of a0)⟩, ⟨⟨0, 0, 0, 0⟩, ⟨0, 0, 0, 0⟩⟩, ⟨⟨0, 0, 0, 0⟩, ⟨0, 0, 0, 0⟩⟩, ⟨⟨0, 0, 0, 0⟩, ⟨0, 0, 0, 0⟩⟩, ⟨⟨0, 0, 0, 0⟩, ⟨0, 0, 0, 0⟩⟩⟩)) sizeOf77 rfl rfl rfl rfl)) (.inr fun _ _ _ h => (h.imp (Ls.of (.cons .k1 .nil))).ro Rs.nil) fun _ _ => .dnil ?_
  refine .inn <| .then <| .reg rfl <| .opp (P.bin (v := N 2) .g0 .k (.addc (by decide))) rfl <| .drop .k1 <| .opp (P.mov .t0) rfl <| .nil <| .then <| .rd <| .seq <| .reg rfl <| .opp (P.bin (v := Bo false) .g0 .k (BinV.lss.boolc (by decide))) rfl ?_
  refine .nil <| .then <| .seq <| .condF .t0 <| .exit <| .thx <| .thx <| .inb <| .inn <| .then <| .reg rfl <| .opp (P.bin (v := N 4) .g2 .k (.addc (by decide))) rfl ?_
  refine .drop .k3 <| .opp (P.mov .t0) rfl <| .nil <| .then <| .rd <| .seq <| .reg rfl <| .opp (P.bin (v := Bo true) .g0 .k (BinV.lss.boolc (by decide))) rfl <| .nil <| .then <| .seq <| .condT .t0 ?_
  refine .skip <| .then <| .seq <| .block <| .seq <| .reg rfl <| .opp (P.mov .g0) rfl <| .drop .k3 <| .opp (P.asg .t0) rfl <| .nil <| .then <| .seq ?_
  refine .reg rfl <| .drop .k2 <| .opp (P.mov .k) rfl <| .nil <| .then <| .block <| .rounds 3 <| .rd <| .seq <| .reg rfl <| .opp (P.bin (v := Bo true) .g0 .k (BinV.lss.boolc (by decide))) rfl <| .nil ?_
  refine .then <| .seq <| .condT .t0 <| .skip <| .then <| .seq <| .block <| .seq <| .reg rfl <| .opp (P.mov .g0) rfl <| .opp (P.asg .t0) rfl <| .nil ?_
  refine .then <| .drawl [blk b1 86 (purse_Book.cs ⟨⟨⟨0, 0, 0, 0⟩, ⟨0, 0, 0, 0⟩⟩, ⟨⟨0, 0, 0, 0⟩, ⟨0, 0, 0, 0⟩⟩, ⟨⟨0, 0, 0, 0⟩, ⟨0, 0, 0, 0⟩⟩, ⟨⟨0, 0, 0, 0⟩, ⟨0, 0, 0, 0⟩⟩, ⟨⟨0, 0, 0, 0⟩, ⟨0, 0, 0, 0⟩⟩, ⟨⟨0, 0, 0, 0⟩, ⟨0, 0, 0, 0⟩⟩, ⟨⟨0, 0, 0, 0⟩, ⟨0, 0, 0, 0⟩⟩, ⟨⟨0, 0, 0, 0⟩, ⟨0, 0, 0, 0⟩⟩⟩)] [] (Ls.of (.cons .k1 .nil)) Rs.nil 7 (.on 0 .pu (.on 1 .pu (.on 2 .pu (.on 4 .pu (.on 3 .go (.on 5 .pu (.on 6 .go .nl))))))) follows_mixed (.inb (.thn (.thn (.inb (.inb (.thn (.thn (.inb (.thn .body))))))))) (by kernel_rfl) <| .dpu rfl (.n rfl) (P.mov .g2) rfl rfl <| .dpu rfl (.n rfl) (P.mov .t1) rfl rfl <| .dpu rfl (.n rfl) (P.mov .g7) rfl rfl <| .dpu rfl (.n rfl) (P.iac (i := 4) .t2 rfl .g5 runUnderlying86 sizeOf84 rfl rfl) rfl rfl <| .dgo rfl (.n rfl) (G.call call38 (.cons .t1 .nil) (S_wide_Of a0 _ rfl) .nil .nil (fun _ _ => rfl) (fun _ _ => rfl) rfl) (.inr fun _ _ _ h => (h.imp (Ls.of (.cons .k1 .nil))).ro Rs.nil) fun _ _ => .dpu rfl (.n rfl) (P.iac (i := 0) .t2 rfl .t1 runUnderlying84 sizeOf77 rfl rfl) rfl rfl <| .dgo rfl (.n rfl) (G.str .t1 .t0 .k0 (.mk (cs' := (purse_Book.cs ⟨⟨(wide_Of a0), (wide_Of a0)⟩, ⟨(wide_Of a0), (wide_Of a0)⟩, ⟨(wide_Of a0), (wide_Of a0)⟩, ⟨(wide_Of a0), (wide_Of a0)⟩, ⟨(wide_Of a0), ⟨0, 0, 0, 0⟩⟩, ⟨⟨0, 0, 0, 0⟩, ⟨0, 0, 0, 0⟩⟩, ⟨⟨0, 0, 0, 0⟩, ⟨0, 0, 0, 0⟩⟩, ⟨⟨0, 0, 0, 0⟩, ⟨0, 0, 0, 0⟩⟩⟩)) sizeOf77 rfl rfl rfl rfl)) (.inr fun _ _ _ h => (h.imp (Ls.of (.cons .k1 .nil))).ro Rs.nil) fun _ _ => .dnil <| .inn <| .then ?_
  refine .reg rfl <| .opp (P.bin (v := N 1) .g0 .k (.addc (by decide))) rfl <| .drop .k1 <| .opp (P.mov .t0) rfl <| .nil <| .then <| .rd <| .seq <| .reg rfl <| .opp (P.bin (v := Bo true) .g0 .k (BinV.lss.boolc (by decide))) rfl <| .nil <| .then ?_
  refine .seq <| .condT .t0 <| .skip <| .then <| .seq <| .block <| .seq <| .reg rfl <| .opp (P.mov .g0) rfl <| .opp (P.asg .t0) rfl <| .nil <| .then ?_
  refine .drawl [blk b1 86 (purse_Book.cs ⟨⟨⟨0, 0, 0, 0⟩, ⟨0, 0, 0, 0⟩⟩, ⟨⟨0, 0, 0, 0⟩, ⟨0, 0, 0, 0⟩⟩, ⟨⟨0, 0, 0, 0⟩, ⟨0, 0, 0, 0⟩⟩, ⟨⟨0, 0, 0, 0⟩, ⟨0, 0, 0, 0⟩⟩, ⟨⟨0, 0, 0, 0⟩, ⟨0, 0, 0, 0⟩⟩, ⟨⟨0, 0, 0, 0⟩, ⟨0, 0, 0, 0⟩⟩, ⟨⟨0, 0, 0, 0⟩, ⟨0, 0, 0, 0⟩⟩, ⟨⟨0, 0, 0, 0⟩, ⟨0, 0, 0, 0⟩⟩⟩)] [] (Ls.of (.cons .k1 .nil)) Rs.nil 7 (.on 0 .pu (.on 1 .pu (.on 2 .pu (.on 4 .pu (.on 3 .go (.on 5 .pu (.on 6 .go .nl))))))) follows_mixed (.inb (.thn (.thn (.inb (.inb (.thn (.thn (.inb (.thn .body))))))))) (by kernel_rfl) <| .dpu rfl (.n rfl) (P.mov .g2) rfl rfl <| .dpu rfl (.n rfl) (P.mov .t1) rfl rfl <| .dpu rfl (.n rfl) (P.mov .g7) rfl rfl <| .dpu rfl (.n rfl) (P.iac (i := 4) .t2 rfl .g5 runUnderlying86 sizeOf84 rfl rfl) rfl rfl <| .dgo rfl (.n rfl) (G.call call38 (.cons .t1 .nil) (S_wide_Of a0 _ rfl) .nil .nil (fun _ _ => rfl) (fun _ _ => rfl) rfl) (.inr fun _ _ _ h => (h.imp (Ls.of (.cons .k1 .nil))).ro Rs.nil) fun _ _ => .dpu rfl (.n rfl) (P.iac (i := 1) .t2 rfl .t1 runUnderlying84 sizeOf77 rfl rfl) rfl rfl <| .dgo rfl (.n rfl) (G.str .t1 .t0 .k0 (.mk (cs' := (purse_Book.cs ⟨⟨(wide_Of a0), (wide_Of a0)⟩, ⟨(wide_Of a0), (wide_Of a0)⟩, ⟨(wide_Of a0), (wide_Of a0)⟩, ⟨(wide_Of a0), (wide_Of a0)⟩, ⟨(wide_Of a0), (wide_Of a0)⟩, ⟨⟨0, 0, 0, 0⟩, ⟨0, 0, 0, 0⟩⟩, ⟨⟨0, 0, 0, 0⟩, ⟨0, 0, 0, 0⟩⟩, ⟨⟨0, 0, 0, 0⟩, ⟨0, 0, 0, 0⟩⟩⟩)) sizeOf77 rfl rfl rfl rfl)) (.inr fun _ _ _ h => (h.imp (Ls.of (.cons .k1 .nil))).ro Rs.nil) fun _ _ => .dnil <| .inn <| .then <| .reg rfl ?_
  refine .opp (P.bin (v := N 2) .g0 .k (.addc (by decide))) rfl <| .drop .k1 <| .opp (P.mov .t0) rfl <| .nil <| .then <| .rd <| .seq <| .reg rfl <| .opp (P.bin (v := Bo false) .g0 .k (BinV.lss.boolc (by decide))) rfl <| .nil <| .then <| .seq ?_
  refine .condF .t0 <| .exit <| .thx <| .thx <| .inb <| .inn <| .then <| .reg rfl <| .opp (P.bin (v := N 5) .g2 .k (.addc (by decide))) rfl <| .drop .k3 <| .opp (P.mov .t0) rfl <| .nil ?_
  refine .then <| .rd <| .seq <| .reg rfl <| .opp (P.bin (v := Bo true) .g0 .k (BinV.lss.boolc (by decide))) rfl <| .nil <| .then <| .seq <| .condT .t0 <| .skip <| .then <| .seq ?_
  refine .block <| .seq <| .reg rfl <| .opp (P.mov .g0) rfl <| .drop .k3 <| .opp (P.asg .t0) rfl <| .nil <| .then <| .seq <| .reg rfl <| .drop .k2 <| .opp (P.mov .k) rfl ?_
  refine .nil <| .then <| .block <| .rounds 3 <| .rd <| .seq <| .reg rfl <| .opp (P.bin (v := Bo true) .g0 .k (BinV.lss.boolc (by decide))) rfl <| .nil <| .then <| .seq <| .condT .t0 ?_
  refine .skip <| .then <| .seq <| .block <| .seq <| .reg rfl <| .opp (P.mov .g0) rfl <| .opp (P.asg .t0) rfl <| .nil <| .then <| .drawl [blk b1 86 (purse_Book.cs ⟨⟨⟨0, 0, 0, 0⟩, ⟨0, 0, 0, 0⟩⟩, ⟨⟨0, 0, 0, 0⟩, ⟨0, 0, 0, 0⟩⟩, ⟨⟨0, 0, 0, 0⟩, ⟨0, 0, 0, 0⟩⟩, ⟨⟨0, 0, 0, 0⟩, ⟨0, 0, 0, 0⟩⟩, ⟨⟨0, 0, 0, 0⟩, ⟨0, 0, 0, 0⟩⟩, ⟨⟨0, 0, 0, 0⟩, ⟨0, 0, 0, 0⟩⟩, ⟨⟨0, 0, 0, 0⟩, ⟨0, 0, 0, 0⟩⟩, ⟨⟨0, 0, 0, 0⟩, ⟨0, 0, 0, 0⟩⟩⟩)] [] (Ls.of (.cons .k1 .nil)) Rs.nil 7 (.on 0 .pu (.on 1 .pu (.on 2 .pu (.on 4 .pu (.on 3 .go (.on 5 .pu (.on 6 .go .nl))))))) follows_mixed (.inb (.thn (.thn (.inb (.inb (.thn (.thn (.inb (.thn .body))))))))) (by kernel_rfl) <| .dpu rfl (.n rfl) (P.mov .g2) rfl rfl ?_
  refine .dpu rfl (.n rfl) (P.mov .t1) rfl rfl <| .dpu rfl (.n rfl) (P.mov .g7) rfl rfl <| .dpu rfl (.n rfl) (P.iac (i := 5) .t2 rfl .g5 runUnderlying86 sizeOf84 rfl rfl) rfl rfl <| .dgo rfl (.n rfl) (G.call call38 (.cons .t1 .nil) (S_wide_Of a0 _ rfl) .nil .nil (fun _ _ => rfl) (fun _ _ => rfl) rfl) (.inr fun _ _ _ h => (h.imp (Ls.of (.cons .k1 .nil))).ro Rs.nil) fun _ _ => .dpu rfl (.n rfl) (P.iac (i := 0) .t2 rfl .t1 runUnderlying84 sizeOf77 rfl rfl) rfl rfl <| .dgo rfl (.n rfl) (G.str .t1 .t0 .k0 (.mk (cs' := (purse_Book.cs ⟨⟨(wide_Of a0), (wide_Of a0)⟩, ⟨(wide_Of a0), (wide_Of a0)⟩, ⟨(wide_Of a0), (wide_Of a0)⟩, ⟨(wide_Of a0), (wide_Of a0)⟩, ⟨(wide_Of a0), (wide_Of a0)⟩, ⟨(wide_Of a0), ⟨0, 0, 0, 0⟩⟩, ⟨⟨0, 0, 0, 0⟩, ⟨0, 0, 0, 0⟩⟩, ⟨⟨0, 0, 0, 0⟩, ⟨0, 0, 0, 0⟩⟩⟩)) sizeOf77 rfl rfl rfl rfl)) (.inr fun _ _ _ h => (h.imp (Ls.of (.cons .k1 .nil))).ro Rs.nil) fun _ _ => .dnil <| .inn <| .then <| .reg rfl <| .opp (P.bin (v := N 1) .g0 .k (.addc (by decide))) rfl <| .drop .k1 ?_
  refine .opp (P.mov .t0) rfl <| .nil <| .then <| .rd <| .seq <| .reg rfl <| .opp (P.bin (v := Bo true) .g0 .k (BinV.lss.boolc (by decide))) rfl <| .nil <| .then <| .seq <| .condT .t0 <| .skip ?_
  refine .then <| .seq <| .block <| .seq <| .reg rfl <| .opp (P.mov .g0) rfl <| .opp (P.asg .t0) rfl <| .nil <| .then <| .drawl [blk b1 86 (purse_Book.cs ⟨⟨⟨0, 0, 0, 0⟩, ⟨0, 0, 0, 0⟩⟩, ⟨⟨0, 0, 0, 0⟩, ⟨0, 0, 0, 0⟩⟩, ⟨⟨0, 0, 0, 0⟩, ⟨0, 0, 0, 0⟩⟩, ⟨⟨0, 0, 0, 0⟩, ⟨0, 0, 0, 0⟩⟩, ⟨⟨0, 0, 0, 0⟩, ⟨0, 0, 0, 0⟩⟩, ⟨⟨0, 0, 0, 0⟩, ⟨0, 0, 0, 0⟩⟩, ⟨⟨0, 0, 0, 0⟩, ⟨0, 0, 0, 0⟩⟩, ⟨⟨0, 0, 0, 0⟩, ⟨0, 0, 0, 0⟩⟩⟩)] [] (Ls.of (.cons .k1 .nil)) Rs.nil 7 (.on 0 .pu (.on 1 .pu (.on 2 .pu (.on 4 .pu (.on 3 .go (.on 5 .pu (.on 6 .go .nl))))))) follows_mixed (.inb (.thn (.thn (.inb (.inb (.thn (.thn (.inb (.thn .body))))))))) (by kernel_rfl) <| .dpu rfl (.n rfl) (P.mov .g2) rfl rfl <| .dpu rfl (.n rfl) (P.mov .t1) rfl rfl ?_
  refine .dpu rfl (.n rfl) (P.mov .g7) rfl rfl <| .dpu rfl (.n rfl) (P.iac (i := 5) .t2 rfl .g5 runUnderlying86 sizeOf84 rfl rfl) rfl rfl <| .dgo rfl (.n rfl) (G.call call38 (.cons .t1 .nil) (S_wide_Of a0 _ rfl) .nil .nil (fun _ _ => rfl) (fun _ _ => rfl) rfl) (.inr fun _ _ _ h => (h.imp (Ls.of (.cons .k1 .nil))).ro Rs.nil) fun _ _ => .dpu rfl (.n rfl) (P.iac (i := 1) .t2 rfl .t1 runUnderlying84 sizeOf77 rfl rfl) rfl rfl <| .dgo rfl (.n rfl) (G.str .t1 .t0 .k0 (.mk (cs' := (purse_Book.cs ⟨⟨(wide_Of a0), (wide_Of a0)⟩, ⟨(wide_Of a0), (wide_Of a0)⟩, ⟨(wide_Of a0), (wide_Of a0)⟩, ⟨(wide_Of a0), (wide_Of a0)⟩, ⟨(wide_Of a0), (wide_Of a0)⟩, ⟨(wide_Of a0), (wide_Of a0)⟩, ⟨⟨0, 0, 0, 0⟩, ⟨0, 0, 0, 0⟩⟩, ⟨⟨0, 0, 0, 0⟩, ⟨0, 0, 0, 0⟩⟩⟩)) sizeOf77 rfl rfl rfl rfl)) (.inr fun _ _ _ h => (h.imp (Ls.of (.cons .k1 .nil))).ro Rs.nil) fun _ _ => .dnil <| .inn <| .then <| .reg rfl <| .opp (P.bin (v := N 2) .g0 .k (.addc (by decide))) rfl <| .drop .k1 <| .opp (P.mov .t0) rfl ?_
  refine .nil <| .then <| .rd <| .seq <| .reg rfl <| .opp (P.bin (v := Bo false) .g0 .k (BinV.lss.boolc (by decide))) rfl <| .nil <| .then <| .seq <| .condF .t0 <| .exit <| .thx ?_
  refine .thx <| .inb <| .inn <| .then <| .reg rfl <| .opp (P.bin (v := N 6) .g2 .k (.addc (by decide))) rfl <| .drop .k3 <| .opp (P.mov .t0) rfl <| .nil <| .then <| .rd <| .seq ?_
  refine .reg rfl <| .opp (P.bin (v := Bo true) .g0 .k (BinV.lss.boolc (by decide))) rfl <| .nil <| .then <| .seq <| .condT .t0 <| .skip <| .then <| .seq <| .block <| .seq <| .reg rfl ?_
  refine .opp (P.mov .g0) rfl <| .drop .k3 <| .opp (P.asg .t0) rfl <| .nil <| .then <| .seq <| .reg rfl <| .drop .k2 <| .opp (P.mov .k) rfl <| .nil <| .then <| .block ?_
  refine .rounds 3 <| .rd <| .seq <| .reg rfl <| .opp (P.bin (v := Bo true) .g0 .k (BinV.lss.boolc (by decide))) rfl <| .nil <| .then <| .seq <| .condT .t0 <| .skip <| .then <| .seq ?_
  refine .block <| .seq <| .reg rfl <| .opp (P.mov .g0) rfl <| .opp (P.asg .t0) rfl <| .nil <| .then <| .drawl [blk b1 86 (purse_Book.cs ⟨⟨⟨0, 0, 0, 0⟩, ⟨0, 0, 0, 0⟩⟩, ⟨⟨0, 0, 0, 0⟩, ⟨0, 0, 0, 0⟩⟩, ⟨⟨0, 0, 0, 0⟩, ⟨0, 0, 0, 0⟩⟩, ⟨⟨0, 0, 0, 0⟩, ⟨0, 0, 0, 0⟩⟩, ⟨⟨0, 0, 0, 0⟩, ⟨0, 0, 0, 0⟩⟩, ⟨⟨0, 0, 0, 0⟩, ⟨0, 0, 0, 0⟩⟩, ⟨⟨0, 0, 0, 0⟩, ⟨0, 0, 0, 0⟩⟩, ⟨⟨0, 0, 0, 0⟩, ⟨0, 0, 0, 0⟩⟩⟩)] [] (Ls.of (.cons .k1 .nil)) Rs.nil 7 (.on 0 .pu (.on 1 .pu (.on 2 .pu (.on 4 .pu (.on 3 .go (.on 5 .pu (.on 6 .go .nl))))))) follows_mixed (.inb (.thn (.thn (.inb (.inb (.thn (.thn (.inb (.thn .body))))))))) (by kernel_rfl) <| .dpu rfl (.n rfl) (P.mov .g2) rfl rfl <| .dpu rfl (.n rfl) (P.mov .t1) rfl rfl <| .dpu rfl (.n rfl) (P.mov .g7) rfl rfl <| .dpu rfl (.n rfl) (P.iac (i := 6) .t2 rfl .g5 runUnderlying86 sizeOf84 rfl rfl) rfl rfl ?_
  refine .dgo rfl (.n rfl) (G.call call38 (.cons .t1 .nil) (S_wide_Of a0 _ rfl) .nil .nil (fun _ _ => rfl) (fun _ _ => rfl) rfl) (.inr fun _ _ _ h => (h.imp (Ls.of (.cons .k1 .nil))).ro Rs.nil) fun _ _ => .dpu rfl (.n rfl) (P.iac (i := 0) .t2 rfl .t1 runUnderlying84 sizeOf77 rfl rfl) rfl rfl <| .dgo rfl (.n rfl) (G.str .t1 .t0 .k0 (.mk (cs' := (purse_Book.cs ⟨⟨(wide_Of a0), (wide_Of a0)⟩, ⟨(wide_Of a0), (wide_Of a0)⟩, ⟨(wide_Of a0), (wide_Of a0)⟩, ⟨(wide_Of a0), (wide_Of a0)⟩, ⟨(wide_Of a0), (wide_Of a0)⟩, ⟨(wide_Of a0), (wide_Of a0)⟩, ⟨(wide_Of a0), ⟨0, 0, 0, 0⟩⟩, ⟨⟨0, 0, 0, 0⟩, ⟨0, 0, 0, 0⟩⟩⟩)) sizeOf77 rfl rfl rfl rfl)) (.inr fun _ _ _ h => (h.imp (Ls.of (.cons .k1 .nil))).ro Rs.nil) fun _ _ => .dnil <| .inn <| .then <| .reg rfl <| .opp (P.bin (v := N 1) .g0 .k (.addc (by decide))) rfl <| .drop .k1 <| .opp (P.mov .t0) rfl <| .nil <| .then ?_
  refine .rd <| .seq <| .reg rfl <| .opp (P.bin (v := Bo true) .g0 .k (BinV.lss.boolc (by decide))) rfl <| .nil <| .then <| .seq <| .condT .t0 <| .skip <| .then <| .seq <| .block ?_
  refine .seq <| .reg rfl <| .opp (P.mov .g0) rfl <| .opp (P.asg .t0) rfl <| .nil <| .then <| .drawl [blk b1 86 (purse_Book.cs ⟨⟨⟨0, 0, 0, 0⟩, ⟨0, 0, 0, 0⟩⟩, ⟨⟨0, 0, 0, 0⟩, ⟨0, 0, 0, 0⟩⟩, ⟨⟨0, 0, 0, 0⟩, ⟨0, 0, 0, 0⟩⟩, ⟨⟨0, 0, 0, 0⟩, ⟨0, 0, 0, 0⟩⟩, ⟨⟨0, 0, 0, 0⟩, ⟨0, 0, 0, 0⟩⟩, ⟨⟨0, 0, 0, 0⟩, ⟨0, 0, 0, 0⟩⟩, ⟨⟨0, 0, 0, 0⟩, ⟨0, 0, 0, 0⟩⟩, ⟨⟨0, 0, 0, 0⟩, ⟨0, 0, 0, 0⟩⟩⟩)] [] (Ls.of (.cons .k1 .nil)) Rs.nil 7 (.on 0 .pu (.on 1 .pu (.on 2 .pu (.on 4 .pu (.on 3 .go (.on 5 .pu (.on 6 .go .nl))))))) follows_mixed (.inb (.thn (.thn (.inb (.inb (.thn (.thn (.inb (.thn .body))))))))) (by kernel_rfl) <| .dpu rfl (.n rfl) (P.mov .g2) rfl rfl <| .dpu rfl (.n rfl) (P.mov .t1) rfl rfl <| .dpu rfl (.n rfl) (P.mov .g7) rfl rfl <| .dpu rfl (.n rfl) (P.iac (i := 6) .t2 rfl .g5 runUnderlying86 sizeOf84 rfl rfl) rfl rfl <| .dgo rfl (.n rfl) (G.call call38 (.cons .t1 .nil) (S_wide_Of a0 _ rfl) .nil .nil (fun _ _ => rfl) (fun _ _ => rfl) rfl) (.inr fun _ _ _ h => (h.imp (Ls.of (.cons .k1 .nil))).ro Rs.nil) fun _ _ => ?_
  refine .dpu rfl (.n rfl) (P.iac (i := 1) .t2 rfl .t1 runUnderlying84 sizeOf77 rfl rfl) rfl rfl <| .dgo rfl (.n rfl) (G.str .t1 .t0 .k0 (.mk (cs' := (purse_Book.cs ⟨⟨(wide_Of a0), (wide_Of a0)⟩, ⟨(wide_Of a0), (wide_Of a0)⟩, ⟨(wide_Of a0), (wide_Of a0)⟩, ⟨(wide_Of a0), (wide_Of a0)⟩, ⟨(wide_Of a0), (wide_Of a0)⟩, ⟨(wide_Of a0), (wide_Of a0)⟩, ⟨(wide_Of a0), (wide_Of a0)⟩, ⟨⟨0, 0, 0, 0⟩, ⟨0, 0, 0, 0⟩⟩⟩)) sizeOf77 rfl rfl rfl rfl)) (.inr fun _ _ _ h => (h.imp (Ls.of (.cons .k1 .nil))).ro Rs.nil) fun _ _ => .dnil <| .inn <| .then <| .reg rfl <| .opp (P.bin (v := N 2) .g0 .k (.addc (by decide))) rfl <| .drop .k1 <| .opp (P.mov .t0) rfl <| .nil <| .then <| .rd ?_
  refine .seq <| .reg rfl <| .opp (P.bin (v := Bo false) .g0 .k (BinV.lss.boolc (by decide))) rfl <| .nil <| .then <| .seq <| .condF .t0 <| .exit <| .thx <| .thx <| .inb <| .inn ?_
  refine .then <| .reg rfl <| .opp (P.bin (v := N 7) .g2 .k (.addc (by decide))) rfl <| .drop .k3 <| .opp (P.mov .t0) rfl <| .nil <| .then <| .rd <| .seq <| .reg rfl <| .opp (P.bin (v := Bo true) .g0 .k (BinV.lss.boolc (by decide))) rfl <| .nil ?_
  refine .then <| .seq <| .condT .t0 <| .skip <| .then <| .seq <| .block <| .seq <| .reg rfl <| .opp (P.mov .g0) rfl <| .drop .k3 <| .opp (P.asg .t0) rfl ?_
  refine .nil <| .then <| .seq <| .reg rfl <| .drop .k2 <| .opp (P.mov .k) rfl <| .nil <| .then <| .block <| .rounds 3 <| .rd <| .seq ?_
  refine .reg rfl <| .opp (P.bin (v := Bo true) .g0 .k (BinV.lss.boolc (by decide))) rfl <| .nil <| .then <| .seq <| .condT .t0 <| .skip <| .then <| .seq <| .block <| .seq <| .reg rfl ?_
  refine .opp (P.mov .g0) rfl <| .opp (P.asg .t0) rfl <| .nil <| .then <| .drawl [blk b1 86 (purse_Book.cs ⟨⟨⟨0, 0, 0, 0⟩, ⟨0, 0, 0, 0⟩⟩, ⟨⟨0, 0, 0, 0⟩, ⟨0, 0, 0, 0⟩⟩, ⟨⟨0, 0, 0, 0⟩, ⟨0, 0, 0, 0⟩⟩, ⟨⟨0, 0, 0, 0⟩, ⟨0, 0, 0, 0⟩⟩, ⟨⟨0, 0, 0, 0⟩, ⟨0, 0, 0, 0⟩⟩, ⟨⟨0, 0, 0, 0⟩, ⟨0, 0, 0, 0⟩⟩, ⟨⟨0, 0, 0, 0⟩, ⟨0, 0, 0, 0⟩⟩, ⟨⟨0, 0, 0, 0⟩, ⟨0, 0, 0, 0⟩⟩⟩)] [] (Ls.of (.cons .k1 .nil)) Rs.nil 7 (.on 0 .pu (.on 1 .pu (.on 2 .pu (.on 4 .pu (.on 3 .go (.on 5 .pu (.on 6 .go .nl))))))) follows_mixed (.inb (.thn (.thn (.inb (.inb (.thn (.thn (.inb (.thn .body))))))))) (by kernel_rfl) <| .dpu rfl (.n rfl) (P.mov .g2) rfl rfl <| .dpu rfl (.n rfl) (P.mov .t1) rfl rfl <| .dpu rfl (.n rfl) (P.mov .g7) rfl rfl <| .dpu rfl (.n rfl) (P.iac (i := 7) .t2 rfl .g5 runUnderlying86 sizeOf84 rfl rfl) rfl rfl <| .dgo rfl (.n rfl) (G.call call38 (.cons .t1 .nil) (S_wide_Of a0 _ rfl) .nil .nil (fun _ _ => rfl) (fun _ _ => rfl) rfl) (.inr fun _ _ _ h => (h.imp (Ls.of (.cons .k1 .nil))).ro Rs.nil) fun _ _ => .dpu rfl (.n rfl) (P.iac (i := 0) .t2 rfl .t1 runUnderlying84 sizeOf77 rfl rfl) rfl rfl <| .dgo rfl (.n rfl) (G.str .t1 .t0 .k0 (.mk (cs' := (purse_Book.cs ⟨⟨(wide_Of a0), (wide_Of a0)⟩, ⟨(wide_Of a0), (wide_Of a0)⟩, ⟨(wide_Of a0), (wide_Of a0)⟩, ⟨(wide_Of a0), (wide_Of a0)⟩, ⟨(wide_Of a0), (wide_Of a0)⟩, ⟨(wide_Of a0), (wide_Of a0)⟩, ⟨(wide_Of a0), (wide_Of a0)⟩, ⟨(wide_Of a0), ⟨0, 0, 0, 0⟩⟩⟩)) sizeOf77 rfl rfl rfl rfl)) (.inr fun _ _ _ h => (h.imp (Ls.of (.cons .k1 .nil))).ro Rs.nil) fun _ _ => ?_
  refine .dnil <| .inn <| .then <| .reg rfl <| .opp (P.bin (v := N 1) .g0 .k (.addc (by decide))) rfl <| .drop .k1 <| .opp (P.mov .t0) rfl <| .nil <| .then <| .rd <| .seq <| .reg rfl ?_
  refine .opp (P.bin (v := Bo true) .g0 .k (BinV.lss.boolc (by decide))) rfl <| .nil <| .then <| .seq <| .condT .t0 <| .skip <| .then <| .seq <| .block <| .seq <| .reg rfl <| .opp (P.mov .g0) rfl ?_
  refine .opp (P.asg .t0) rfl <| .nil <| .then <| .drawl [blk b1 86 (purse_Book.cs ⟨⟨⟨0, 0, 0, 0⟩, ⟨0, 0, 0, 0⟩⟩, ⟨⟨0, 0, 0, 0⟩, ⟨0, 0, 0, 0⟩⟩, ⟨⟨0, 0, 0, 0⟩, ⟨0, 0, 0, 0⟩⟩, ⟨⟨0, 0, 0, 0⟩, ⟨0, 0, 0, 0⟩⟩, ⟨⟨0, 0, 0, 0⟩, ⟨0, 0, 0, 0⟩⟩, ⟨⟨0, 0, 0, 0⟩, ⟨0, 0, 0, 0⟩⟩, ⟨⟨0, 0, 0, 0⟩, ⟨0, 0, 0, 0⟩⟩, ⟨⟨0, 0, 0, 0⟩, ⟨0, 0, 0, 0⟩⟩⟩)] [] (Ls.of (.cons .k1 .nil)) Rs.nil 7 (.on 0 .pu (.on 1 .pu (.on 2 .pu (.on 4 .pu (.on 3 .go (.on 5 .pu (.on 6 .go .nl))))))) follows_mixed (.inb (.thn (.thn (.inb (.inb (.thn (.thn (.inb (.thn .body))))))))) (by kernel_rfl) <| .dpu rfl (.n rfl) (P.mov .g2) rfl rfl <| .dpu rfl (.n rfl) (P.mov .t1) rfl rfl <| .dpu rfl (.n rfl) (P.mov .g7) rfl rfl <| .dpu rfl (.n rfl) (P.iac (i := 7) .t2 rfl .g5 runUnderlying86 sizeOf84 rfl rfl) rfl rfl <| .dgo rfl (.n rfl) (G.call call38 (.cons .t1 .nil) (S_wide_Of a0 _ rfl) .nil .nil (fun _ _ => rfl) (fun _ _ => rfl) rfl) (.inr fun _ _ _ h => (h.imp (Ls.of (.cons .k1 .nil))).ro Rs.nil) fun _ _ => .dpu rfl (.n rfl) (P.iac (i := 1) .t2 rfl .t1 runUnderlying84 sizeOf77 rfl rfl) rfl rfl <| .dgo rfl (.n rfl) (G.str .t1 .t0 .k0 (.mk (cs' := (purse_Book.cs ⟨⟨(wide_Of a0), (wide_Of a0)⟩, ⟨(wide_Of a0), (wide_Of a0)⟩, ⟨(wide_Of a0), (wide_Of a0)⟩, ⟨(wide_Of a0), (wide_Of a0)⟩, ⟨(wide_Of a0), (wide_Of a0)⟩, ⟨(wide_Of a0), (wide_Of a0)⟩, ⟨(wide_Of a0), (wide_Of a0)⟩, ⟨(wide_Of a0), (wide_Of a0)⟩⟩)) sizeOf77 rfl rfl rfl rfl)) (.inr fun _ _ _ h => (h.imp (Ls.of (.cons .k1 .nil))).ro Rs.nil) fun _ _ => .dnil ?_
  refine .inn <| .then <| .reg rfl <| .opp (P.bin (v := N 2) .g0 .k (.addc (by decide))) rfl <| .drop .k1 <| .opp (P.mov .t0) rfl <| .nil <| .then <| .rd <| .seq <| .reg rfl <| .opp (P.bin (v := Bo false) .g0 .k (BinV.lss.boolc (by decide))) rfl ?_
  refine .nil <| .then <| .seq <| .condF .t0 <| .exit <| .thx <| .thx <| .inb <| .inn <| .then <| .reg rfl <| .opp (P.bin (v := N 8) .g2 .k (.addc (by decide))) rfl ?_
  refine .drop .k3 <| .opp (P.mov .t0) rfl <| .nil <| .then <| .rd <| .seq <| .reg rfl <| .opp (P.bin (v := Bo false) .g0 .k (BinV.lss.boolc (by decide))) rfl <| .nil <| .then <| .seq <| .condF .t0 ?_
  refine .exit <| .thx <| .thx <| .inb <| .then <| .seq <| .reg rfl <| .op (V.ld (v := Ag (purse_Book.cs ⟨⟨(wide_Of a0), (wide_Of a0)⟩, ⟨(wide_Of a0), (wide_Of a0)⟩, ⟨(wide_Of a0), (wide_Of a0)⟩, ⟨(wide_Of a0), (wide_Of a0)⟩, ⟨(wide_Of a0), (wide_Of a0)⟩, ⟨(wide_Of a0), (wide_Of a0)⟩, ⟨(wide_Of a0), (wide_Of a0)⟩, ⟨(wide_Of a0), (wide_Of a0)⟩⟩)) .t3 .k0 (.agg isAgg86 sizeOf86 rfl rfl)) rfl <| .opg (G.str .t0 .g3 .k1 (.mk (cs' := (purse_Book.cs ⟨⟨(wide_Of a0), (wide_Of a0)⟩, ⟨(wide_Of a0), (wide_Of a0)⟩, ⟨(wide_Of a0), (wide_Of a0)⟩, ⟨(wide_Of a0), (wide_Of a0)⟩, ⟨(wide_Of a0), (wide_Of a0)⟩, ⟨(wide_Of a0), (wide_Of a0)⟩, ⟨(wide_Of a0), (wide_Of a0)⟩, ⟨(wide_Of a0), (wide_Of a0)⟩⟩)) sizeOf86 rfl rfl rfl rfl)) rfl fun _ _ => .nil <| .then <| .ret ?_
  subst h
  exact .finw () (.r1 rfl (.cell .g3 .k0 (.agg isAgg86 sizeOf86 rfl rfl))) trivial (Ls.of .nil) .nil
attribute [irreducible] purse_Even
end Go.Sl
