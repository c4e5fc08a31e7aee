/- Walked code of the program, its pure functions and their contracts. -/
import Derived.Test.YtdkjcjicnnegkaaGreatProg
import Derived.Test.YtdkjcjicnnegkaaGreatSlBx2
set_option linter.unusedVariables false
set_option linter.unusedSimpArgs false
namespace Go.Sl
open Go.Proofs Go.Proofs.Tryz
theorem follows_mixed : Tryz.prog.follows .mixedOrders = true := by kernel_rfl
abbrev mustCh (e : Int) : List PanicEntry := [{ v := .iface 307 (Ag [N e]), recovered := false }]
structure api_Step where
  Kind : Int
  A : Int
  B : Int
  C : Int
  Data : List UInt8
  deriving DecidableEq
def api_Step.cs (x : api_Step) (z0 : Value) : List Value := [N x.Kind, N x.A, N x.B, N x.C, z0]
def api_Step.g (x : api_Step) (z : Value) : Asn := rows 1 z (x.Data.map (fun x => [B8 x]))
def api_Step.z : api_Step := ⟨0, 0, 0, 0, []⟩
structure A3_i64 where
  a0 : Int
  a1 : Int
  a2 : Int
  deriving DecidableEq
def A3_i64.cs (x : A3_i64) : List Value := [N x.a0, N x.a1, N x.a2]
def A3_i64.list (x : A3_i64) : List Int := [x.a0, x.a1, x.a2]
def A3_i64.set (x : A3_i64) (k : Nat) (v : Int) : A3_i64 := ⟨if k = 0 then v else x.a0, if k = 1 then v else x.a1, if k = 2 then v else x.a2⟩
def A3_i64.z : A3_i64 := ⟨0, 0, 0⟩
structure world_Setup where
  Delay : Int
  Skew : Int
  Corrupt : Int
  Room : Int
  deriving DecidableEq
def world_Setup.cs (x : world_Setup) : List Value := [N x.Delay, N x.Skew, N x.Corrupt, N x.Room]
def world_Setup.z : world_Setup := ⟨0, 0, 0, 0⟩
structure api_Wide where
  a0 : UInt64
  a1 : UInt64
  a2 : UInt64
  a3 : UInt64
  deriving DecidableEq
def api_Wide.cs (x : api_Wide) : List Value := [U x.a0, U x.a1, U x.a2, U x.a3]
def api_Wide.list (x : api_Wide) : List UInt64 := [x.a0, x.a1, x.a2, x.a3]
def api_Wide.set (x : api_Wide) (k : Nat) (v : UInt64) : api_Wide := ⟨if k = 0 then v else x.a0, if k = 1 then v else x.a1, if k = 2 then v else x.a2, if k = 3 then v else x.a3⟩
def api_Wide.z : api_Wide := ⟨0, 0, 0, 0⟩
structure A2_api_Wide where
  a0 : api_Wide
  a1 : api_Wide
  deriving DecidableEq
def A2_api_Wide.cs (x : A2_api_Wide) : List Value := [U x.a0.a0, U x.a0.a1, U x.a0.a2, U x.a0.a3, U x.a1.a0, U x.a1.a1, U x.a1.a2, U x.a1.a3]
def A2_api_Wide.list (x : A2_api_Wide) : List api_Wide := [x.a0, x.a1]
def A2_api_Wide.set (x : A2_api_Wide) (k : Nat) (v : api_Wide) : A2_api_Wide := ⟨if k = 0 then v else x.a0, if k = 1 then v else x.a1⟩
def A2_api_Wide.z : A2_api_Wide := ⟨api_Wide.z, api_Wide.z⟩
structure purse_Book where
  a0 : A2_api_Wide
  a1 : A2_api_Wide
  a2 : A2_api_Wide
  a3 : A2_api_Wide
  a4 : A2_api_Wide
  a5 : A2_api_Wide
  a6 : A2_api_Wide
  a7 : A2_api_Wide
  deriving DecidableEq
def purse_Book.cs (x : purse_Book) : List Value := [U x.a0.a0.a0, U x.a0.a0.a1, U x.a0.a0.a2, U x.a0.a0.a3, U x.a0.a1.a0, U x.a0.a1.a1, U x.a0.a1.a2, U x.a0.a1.a3, U x.a1.a0.a0, U x.a1.a0.a1, U x.a1.a0.a2, U x.a1.a0.a3, U x.a1.a1.a0, U x.a1.a1.a1, U x.a1.a1.a2, U x.a1.a1.a3, U x.a2.a0.a0, U x.a2.a0.a1, U x.a2.a0.a2, U x.a2.a0.a3, U x.a2.a1.a0, U x.a2.a1.a1, U x.a2.a1.a2, U x.a2.a1.a3, U x.a3.a0.a0, U x.a3.a0.a1, U x.a3.a0.a2, U x.a3.a0.a3, U x.a3.a1.a0, U x.a3.a1.a1, U x.a3.a1.a2, U x.a3.a1.a3, U x.a4.a0.a0, U x.a4.a0.a1, U x.a4.a0.a2, U x.a4.a0.a3, U x.a4.a1.a0, U x.a4.a1.a1, U x.a4.a1.a2, U x.a4.a1.a3, U x.a5.a0.a0, U x.a5.a0.a1, U x.a5.a0.a2, U x.a5.a0.a3, U x.a5.a1.a0, U x.a5.a1.a1, U x.a5.a1.a2, U x.a5.a1.a3, U x.a6.a0.a0, U x.a6.a0.a1, U x.a6.a0.a2, U x.a6.a0.a3, U x.a6.a1.a0, U x.a6.a1.a1, U x.a6.a1.a2, U x.a6.a1.a3, U x.a7.a0.a0, U x.a7.a0.a1, U x.a7.a0.a2, U x.a7.a0.a3, U x.a7.a1.a0, U x.a7.a1.a1, U x.a7.a1.a2, U x.a7.a1.a3]
def purse_Book.list (x : purse_Book) : List A2_api_Wide := [x.a0, x.a1, x.a2, x.a3, x.a4, x.a5, x.a6, x.a7]
def purse_Book.set (x : purse_Book) (k : Nat) (v : A2_api_Wide) : purse_Book := ⟨if k = 0 then v else x.a0, if k = 1 then v else x.a1, if k = 2 then v else x.a2, if k = 3 then v else x.a3, if k = 4 then v else x.a4, if k = 5 then v else x.a5, if k = 6 then v else x.a6, if k = 7 then v else x.a7⟩
def purse_Book.z : purse_Book := ⟨A2_api_Wide.z, A2_api_Wide.z, A2_api_Wide.z, A2_api_Wide.z, A2_api_Wide.z, A2_api_Wide.z, A2_api_Wide.z, A2_api_Wide.z⟩
structure A8_i64 where
  a0 : Int
  a1 : Int
  a2 : Int
  a3 : Int
  a4 : Int
  a5 : Int
  a6 : Int
  a7 : Int
  deriving DecidableEq
def A8_i64.cs (x : A8_i64) : List Value := [N x.a0, N x.a1, N x.a2, N x.a3, N x.a4, N x.a5, N x.a6, N x.a7]
def A8_i64.list (x : A8_i64) : List Int := [x.a0, x.a1, x.a2, x.a3, x.a4, x.a5, x.a6, x.a7]
def A8_i64.set (x : A8_i64) (k : Nat) (v : Int) : A8_i64 := ⟨if k = 0 then v else x.a0, if k = 1 then v else x.a1, if k = 2 then v else x.a2, if k = 3 then v else x.a3, if k = 4 then v else x.a4, if k = 5 then v else x.a5, if k = 6 then v else x.a6, if k = 7 then v else x.a7⟩
def A8_i64.z : A8_i64 := ⟨0, 0, 0, 0, 0, 0, 0, 0⟩
structure escrow_Lock where
  Key : ByteArray
  Digest : ByteArray
  Status : Int
  deriving DecidableEq
def escrow_Lock.cs (x : escrow_Lock) : List Value := [.string x.Key, .string x.Digest, N x.Status]
def escrow_Lock.z : escrow_Lock := ⟨⟨#[]⟩, ⟨#[]⟩, 0⟩
structure escrow_State where
  Side : Int
  Time : Int
  Purse : purse_Book
  Vault : purse_Book
  Nonces : A8_i64
  Held : A2_api_Wide
  Burnt : api_Wide
  Locks : List escrow_Lock
  deriving DecidableEq
def escrow_State.cs (x : escrow_State) (z0 : Value) : List Value := [N x.Side, N x.Time, U x.Purse.a0.a0.a0, U x.Purse.a0.a0.a1, U x.Purse.a0.a0.a2, U x.Purse.a0.a0.a3, U x.Purse.a0.a1.a0, U x.Purse.a0.a1.a1, U x.Purse.a0.a1.a2, U x.Purse.a0.a1.a3, U x.Purse.a1.a0.a0, U x.Purse.a1.a0.a1, U x.Purse.a1.a0.a2, U x.Purse.a1.a0.a3, U x.Purse.a1.a1.a0, U x.Purse.a1.a1.a1, U x.Purse.a1.a1.a2, U x.Purse.a1.a1.a3, U x.Purse.a2.a0.a0, U x.Purse.a2.a0.a1, U x.Purse.a2.a0.a2, U x.Purse.a2.a0.a3, U x.Purse.a2.a1.a0, U x.Purse.a2.a1.a1, U x.Purse.a2.a1.a2, U x.Purse.a2.a1.a3, U x.Purse.a3.a0.a0, U x.Purse.a3.a0.a1, U x.Purse.a3.a0.a2, U x.Purse.a3.a0.a3, U x.Purse.a3.a1.a0, U x.Purse.a3.a1.a1, U x.Purse.a3.a1.a2, U x.Purse.a3.a1.a3, U x.Purse.a4.a0.a0, U x.Purse.a4.a0.a1, U x.Purse.a4.a0.a2, U x.Purse.a4.a0.a3, U x.Purse.a4.a1.a0, U x.Purse.a4.a1.a1, U x.Purse.a4.a1.a2, U x.Purse.a4.a1.a3, U x.Purse.a5.a0.a0, U x.Purse.a5.a0.a1, U x.Purse.a5.a0.a2, U x.Purse.a5.a0.a3, U x.Purse.a5.a1.a0, U x.Purse.a5.a1.a1, U x.Purse.a5.a1.a2, U x.Purse.a5.a1.a3, U x.Purse.a6.a0.a0, U x.Purse.a6.a0.a1, U x.Purse.a6.a0.a2, U x.Purse.a6.a0.a3, U x.Purse.a6.a1.a0, U x.Purse.a6.a1.a1, U x.Purse.a6.a1.a2, U x.Purse.a6.a1.a3, U x.Purse.a7.a0.a0, U x.Purse.a7.a0.a1, U x.Purse.a7.a0.a2, U x.Purse.a7.a0.a3, U x.Purse.a7.a1.a0, U x.Purse.a7.a1.a1, U x.Purse.a7.a1.a2, U x.Purse.a7.a1.a3, U x.Vault.a0.a0.a0, U x.Vault.a0.a0.a1, U x.Vault.a0.a0.a2, U x.Vault.a0.a0.a3, U x.Vault.a0.a1.a0, U x.Vault.a0.a1.a1, U x.Vault.a0.a1.a2, U x.Vault.a0.a1.a3, U x.Vault.a1.a0.a0, U x.Vault.a1.a0.a1, U x.Vault.a1.a0.a2, U x.Vault.a1.a0.a3, U x.Vault.a1.a1.a0, U x.Vault.a1.a1.a1, U x.Vault.a1.a1.a2, U x.Vault.a1.a1.a3, U x.Vault.a2.a0.a0, U x.Vault.a2.a0.a1, U x.Vault.a2.a0.a2, U x.Vault.a2.a0.a3, U x.Vault.a2.a1.a0, U x.Vault.a2.a1.a1, U x.Vault.a2.a1.a2, U x.Vault.a2.a1.a3, U x.Vault.a3.a0.a0, U x.Vault.a3.a0.a1, U x.Vault.a3.a0.a2, U x.Vault.a3.a0.a3, U x.Vault.a3.a1.a0, U x.Vault.a3.a1.a1, U x.Vault.a3.a1.a2, U x.Vault.a3.a1.a3, U x.Vault.a4.a0.a0, U x.Vault.a4.a0.a1, U x.Vault.a4.a0.a2, U x.Vault.a4.a0.a3, U x.Vault.a4.a1.a0, U x.Vault.a4.a1.a1, U x.Vault.a4.a1.a2, U x.Vault.a4.a1.a3, U x.Vault.a5.a0.a0, U x.Vault.a5.a0.a1, U x.Vault.a5.a0.a2, U x.Vault.a5.a0.a3, U x.Vault.a5.a1.a0, U x.Vault.a5.a1.a1, U x.Vault.a5.a1.a2, U x.Vault.a5.a1.a3, U x.Vault.a6.a0.a0, U x.Vault.a6.a0.a1, U x.Vault.a6.a0.a2, U x.Vault.a6.a0.a3, U x.Vault.a6.a1.a0, U x.Vault.a6.a1.a1, U x.Vault.a6.a1.a2, U x.Vault.a6.a1.a3, U x.Vault.a7.a0.a0, U x.Vault.a7.a0.a1, U x.Vault.a7.a0.a2, U x.Vault.a7.a0.a3, U x.Vault.a7.a1.a0, U x.Vault.a7.a1.a1, U x.Vault.a7.a1.a2, U x.Vault.a7.a1.a3, N x.Nonces.a0, N x.Nonces.a1, N x.Nonces.a2, N x.Nonces.a3, N x.Nonces.a4, N x.Nonces.a5, N x.Nonces.a6, N x.Nonces.a7, U x.Held.a0.a0, U x.Held.a0.a1, U x.Held.a0.a2, U x.Held.a0.a3, U x.Held.a1.a0, U x.Held.a1.a1, U x.Held.a1.a2, U x.Held.a1.a3, U x.Burnt.a0, U x.Burnt.a1, U x.Burnt.a2, U x.Burnt.a3, z0]
def escrow_State.g (x : escrow_State) (z : Value) : Asn := rows 3 z (x.Locks.map escrow_Lock.cs)
def escrow_State.z : escrow_State := ⟨0, 0, purse_Book.z, purse_Book.z, A8_i64.z, A2_api_Wide.z, api_Wide.z, []⟩
structure api_Inv where
  User : Int
  Root : ByteArray
  Router : Int
  Send : Int
  Recv : Int
  To : Int
  Id : ByteArray
  deriving DecidableEq
def api_Inv.cs (x : api_Inv) : List Value := [N x.User, .string x.Root, N x.Router, N x.Send, N x.Recv, N x.To, .string x.Id]
def api_Inv.z : api_Inv := ⟨0, ⟨#[]⟩, 0, 0, 0, 0, ⟨#[]⟩⟩
structure api_Var where
  Amount : api_Wide
  Expiry : Int
  deriving DecidableEq
def api_Var.cs (x : api_Var) : List Value := [U x.Amount.a0, U x.Amount.a1, U x.Amount.a2, U x.Amount.a3, N x.Expiry]
def api_Var.z : api_Var := ⟨api_Wide.z, 0⟩
structure api_Tx where
  From : Int
  Nonce : Int
  Kind : Int
  Asset : Int
  Amount : api_Wide
  Inv : api_Inv
  Var : api_Var
  Fee : api_Wide
  Sig : ByteArray
  deriving DecidableEq
def api_Tx.cs (x : api_Tx) : List Value := [N x.From, N x.Nonce, N x.Kind, N x.Asset, U x.Amount.a0, U x.Amount.a1, U x.Amount.a2, U x.Amount.a3, N x.Inv.User, .string x.Inv.Root, N x.Inv.Router, N x.Inv.Send, N x.Inv.Recv, N x.Inv.To, .string x.Inv.Id, U x.Var.Amount.a0, U x.Var.Amount.a1, U x.Var.Amount.a2, U x.Var.Amount.a3, N x.Var.Expiry, U x.Fee.a0, U x.Fee.a1, U x.Fee.a2, U x.Fee.a3, .string x.Sig]
def api_Tx.z : api_Tx := ⟨0, 0, 0, 0, api_Wide.z, api_Inv.z, api_Var.z, api_Wide.z, ⟨#[]⟩⟩
structure api_Event where
  Time : Int
  Code : Int
  Tx : api_Tx
  deriving DecidableEq
def api_Event.cs (x : api_Event) : List Value := [N x.Time, N x.Code, N x.Tx.From, N x.Tx.Nonce, N x.Tx.Kind, N x.Tx.Asset, U x.Tx.Amount.a0, U x.Tx.Amount.a1, U x.Tx.Amount.a2, U x.Tx.Amount.a3, N x.Tx.Inv.User, .string x.Tx.Inv.Root, N x.Tx.Inv.Router, N x.Tx.Inv.Send, N x.Tx.Inv.Recv, N x.Tx.Inv.To, .string x.Tx.Inv.Id, U x.Tx.Var.Amount.a0, U x.Tx.Var.Amount.a1, U x.Tx.Var.Amount.a2, U x.Tx.Var.Amount.a3, N x.Tx.Var.Expiry, U x.Tx.Fee.a0, U x.Tx.Fee.a1, U x.Tx.Fee.a2, U x.Tx.Fee.a3, .string x.Tx.Sig]
def api_Event.z : api_Event := ⟨0, 0, api_Tx.z⟩
structure chain_Chain where
  s : escrow_State
  pool : List api_Tx
  events : List api_Event
  made : Bool
  deriving DecidableEq
def chain_Chain.cs (x : chain_Chain) (z0 z1 z2 : Value) : List Value := [N x.s.Side, N x.s.Time, U x.s.Purse.a0.a0.a0, U x.s.Purse.a0.a0.a1, U x.s.Purse.a0.a0.a2, U x.s.Purse.a0.a0.a3, U x.s.Purse.a0.a1.a0, U x.s.Purse.a0.a1.a1, U x.s.Purse.a0.a1.a2, U x.s.Purse.a0.a1.a3, U x.s.Purse.a1.a0.a0, U x.s.Purse.a1.a0.a1, U x.s.Purse.a1.a0.a2, U x.s.Purse.a1.a0.a3, U x.s.Purse.a1.a1.a0, U x.s.Purse.a1.a1.a1, U x.s.Purse.a1.a1.a2, U x.s.Purse.a1.a1.a3, U x.s.Purse.a2.a0.a0, U x.s.Purse.a2.a0.a1, U x.s.Purse.a2.a0.a2, U x.s.Purse.a2.a0.a3, U x.s.Purse.a2.a1.a0, U x.s.Purse.a2.a1.a1, U x.s.Purse.a2.a1.a2, U x.s.Purse.a2.a1.a3, U x.s.Purse.a3.a0.a0, U x.s.Purse.a3.a0.a1, U x.s.Purse.a3.a0.a2, U x.s.Purse.a3.a0.a3, U x.s.Purse.a3.a1.a0, U x.s.Purse.a3.a1.a1, U x.s.Purse.a3.a1.a2, U x.s.Purse.a3.a1.a3, U x.s.Purse.a4.a0.a0, U x.s.Purse.a4.a0.a1, U x.s.Purse.a4.a0.a2, U x.s.Purse.a4.a0.a3, U x.s.Purse.a4.a1.a0, U x.s.Purse.a4.a1.a1, U x.s.Purse.a4.a1.a2, U x.s.Purse.a4.a1.a3, U x.s.Purse.a5.a0.a0, U x.s.Purse.a5.a0.a1, U x.s.Purse.a5.a0.a2, U x.s.Purse.a5.a0.a3, U x.s.Purse.a5.a1.a0, U x.s.Purse.a5.a1.a1, U x.s.Purse.a5.a1.a2, U x.s.Purse.a5.a1.a3, U x.s.Purse.a6.a0.a0, U x.s.Purse.a6.a0.a1, U x.s.Purse.a6.a0.a2, U x.s.Purse.a6.a0.a3, U x.s.Purse.a6.a1.a0, U x.s.Purse.a6.a1.a1, U x.s.Purse.a6.a1.a2, U x.s.Purse.a6.a1.a3, U x.s.Purse.a7.a0.a0, U x.s.Purse.a7.a0.a1, U x.s.Purse.a7.a0.a2, U x.s.Purse.a7.a0.a3, U x.s.Purse.a7.a1.a0, U x.s.Purse.a7.a1.a1, U x.s.Purse.a7.a1.a2, U x.s.Purse.a7.a1.a3, U x.s.Vault.a0.a0.a0, U x.s.Vault.a0.a0.a1, U x.s.Vault.a0.a0.a2, U x.s.Vault.a0.a0.a3, U x.s.Vault.a0.a1.a0, U x.s.Vault.a0.a1.a1, U x.s.Vault.a0.a1.a2, U x.s.Vault.a0.a1.a3, U x.s.Vault.a1.a0.a0, U x.s.Vault.a1.a0.a1, U x.s.Vault.a1.a0.a2, U x.s.Vault.a1.a0.a3, U x.s.Vault.a1.a1.a0, U x.s.Vault.a1.a1.a1, U x.s.Vault.a1.a1.a2, U x.s.Vault.a1.a1.a3, U x.s.Vault.a2.a0.a0, U x.s.Vault.a2.a0.a1, U x.s.Vault.a2.a0.a2, U x.s.Vault.a2.a0.a3, U x.s.Vault.a2.a1.a0, U x.s.Vault.a2.a1.a1, U x.s.Vault.a2.a1.a2, U x.s.Vault.a2.a1.a3, U x.s.Vault.a3.a0.a0, U x.s.Vault.a3.a0.a1, U x.s.Vault.a3.a0.a2, U x.s.Vault.a3.a0.a3, U x.s.Vault.a3.a1.a0, U x.s.Vault.a3.a1.a1, U x.s.Vault.a3.a1.a2, U x.s.Vault.a3.a1.a3, U x.s.Vault.a4.a0.a0, U x.s.Vault.a4.a0.a1, U x.s.Vault.a4.a0.a2, U x.s.Vault.a4.a0.a3, U x.s.Vault.a4.a1.a0, U x.s.Vault.a4.a1.a1, U x.s.Vault.a4.a1.a2, U x.s.Vault.a4.a1.a3, U x.s.Vault.a5.a0.a0, U x.s.Vault.a5.a0.a1, U x.s.Vault.a5.a0.a2, U x.s.Vault.a5.a0.a3, U x.s.Vault.a5.a1.a0, U x.s.Vault.a5.a1.a1, U x.s.Vault.a5.a1.a2, U x.s.Vault.a5.a1.a3, U x.s.Vault.a6.a0.a0, U x.s.Vault.a6.a0.a1, U x.s.Vault.a6.a0.a2, U x.s.Vault.a6.a0.a3, U x.s.Vault.a6.a1.a0, U x.s.Vault.a6.a1.a1, U x.s.Vault.a6.a1.a2, U x.s.Vault.a6.a1.a3, U x.s.Vault.a7.a0.a0, U x.s.Vault.a7.a0.a1, U x.s.Vault.a7.a0.a2, U x.s.Vault.a7.a0.a3, U x.s.Vault.a7.a1.a0, U x.s.Vault.a7.a1.a1, U x.s.Vault.a7.a1.a2, U x.s.Vault.a7.a1.a3, N x.s.Nonces.a0, N x.s.Nonces.a1, N x.s.Nonces.a2, N x.s.Nonces.a3, N x.s.Nonces.a4, N x.s.Nonces.a5, N x.s.Nonces.a6, N x.s.Nonces.a7, U x.s.Held.a0.a0, U x.s.Held.a0.a1, U x.s.Held.a0.a2, U x.s.Held.a0.a3, U x.s.Held.a1.a0, U x.s.Held.a1.a1, U x.s.Held.a1.a2, U x.s.Held.a1.a3, U x.s.Burnt.a0, U x.s.Burnt.a1, U x.s.Burnt.a2, U x.s.Burnt.a3, z0, z1, z2, .bool x.made]
def chain_Chain.z : chain_Chain := ⟨escrow_State.z, [], [], false⟩
structure A2_chain_Chain where
  a0 : Option chain_Chain
  a1 : Option chain_Chain
def A2_chain_Chain.cs (x : A2_chain_Chain) (z0 z1 : Value) : List Value := [z0, z1]
def A2_chain_Chain.list (x : A2_chain_Chain) : List (Option chain_Chain) := [x.a0, x.a1]
def A2_chain_Chain.set (x : A2_chain_Chain) (k : Nat) (v : (Option chain_Chain)) : A2_chain_Chain := ⟨if k = 0 then v else x.a0, if k = 1 then v else x.a1⟩
def A2_chain_Chain.z : A2_chain_Chain := ⟨none, none⟩
structure auction_Room where
  roots : List ByteArray
  open_ : Unit
  made : Bool
def auction_Room.cs (x : auction_Room) (z0 : Value) : List Value := [z0, nilSl, .bool x.made]
def auction_Room.g (x : auction_Room) (z : Value) : Asn := rows 1 z (x.roots.map (fun x => [.string x]))
def auction_Room.z : auction_Room := ⟨[], (), false⟩
structure disk_Disk where
  b : List UInt8
  sure : Int
  room : Int
  made : Bool
  deriving DecidableEq
def disk_Disk.cs (x : disk_Disk) (z0 : Value) : List Value := [z0, N x.sure, N x.room, .bool x.made]
def disk_Disk.g (x : disk_Disk) (z : Value) : Asn := rows 1 z (x.b.map (fun x => [B8 x]))
def disk_Disk.z : disk_Disk := ⟨[], 0, 0, false⟩
structure api_Ask where
  User : Int
  Send : Int
  Recv : Int
  To : Int
  Amount : api_Wide
  Id : ByteArray
  deriving DecidableEq
def api_Ask.cs (x : api_Ask) : List Value := [N x.User, N x.Send, N x.Recv, N x.To, U x.Amount.a0, U x.Amount.a1, U x.Amount.a2, U x.Amount.a3, .string x.Id]
def api_Ask.z : api_Ask := ⟨0, 0, 0, 0, api_Wide.z, ⟨#[]⟩⟩
structure api_Bid where
  Router : Int
  Ask : api_Ask
  Amount : api_Wide
  Until : Int
  Sig : ByteArray
  deriving DecidableEq
def api_Bid.cs (x : api_Bid) : List Value := [N x.Router, N x.Ask.User, N x.Ask.Send, N x.Ask.Recv, N x.Ask.To, U x.Ask.Amount.a0, U x.Ask.Amount.a1, U x.Ask.Amount.a2, U x.Ask.Amount.a3, .string x.Ask.Id, U x.Amount.a0, U x.Amount.a1, U x.Amount.a2, U x.Amount.a3, N x.Until, .string x.Sig]
def api_Bid.z : api_Bid := ⟨0, api_Ask.z, api_Wide.z, 0, ⟨#[]⟩⟩
structure api_Message where
  Kind : Int
  Ask : api_Ask
  Bid : api_Bid
  Inv : api_Inv
  Var : api_Var
  Fee : api_Wide
  Sig : ByteArray
  deriving DecidableEq
def api_Message.cs (x : api_Message) : List Value := [N x.Kind, N x.Ask.User, N x.Ask.Send, N x.Ask.Recv, N x.Ask.To, U x.Ask.Amount.a0, U x.Ask.Amount.a1, U x.Ask.Amount.a2, U x.Ask.Amount.a3, .string x.Ask.Id, N x.Bid.Router, N x.Bid.Ask.User, N x.Bid.Ask.Send, N x.Bid.Ask.Recv, N x.Bid.Ask.To, U x.Bid.Ask.Amount.a0, U x.Bid.Ask.Amount.a1, U x.Bid.Ask.Amount.a2, U x.Bid.Ask.Amount.a3, .string x.Bid.Ask.Id, U x.Bid.Amount.a0, U x.Bid.Amount.a1, U x.Bid.Amount.a2, U x.Bid.Amount.a3, N x.Bid.Until, .string x.Bid.Sig, N x.Inv.User, .string x.Inv.Root, N x.Inv.Router, N x.Inv.Send, N x.Inv.Recv, N x.Inv.To, .string x.Inv.Id, U x.Var.Amount.a0, U x.Var.Amount.a1, U x.Var.Amount.a2, U x.Var.Amount.a3, N x.Var.Expiry, U x.Fee.a0, U x.Fee.a1, U x.Fee.a2, U x.Fee.a3, .string x.Sig]
def api_Message.z : api_Message := ⟨0, api_Ask.z, api_Bid.z, api_Inv.z, api_Var.z, api_Wide.z, ⟨#[]⟩⟩
structure api_Send where
  Side : Int
  Tx : api_Tx
  deriving DecidableEq
def api_Send.cs (x : api_Send) : List Value := [N x.Side, N x.Tx.From, N x.Tx.Nonce, N x.Tx.Kind, N x.Tx.Asset, U x.Tx.Amount.a0, U x.Tx.Amount.a1, U x.Tx.Amount.a2, U x.Tx.Amount.a3, N x.Tx.Inv.User, .string x.Tx.Inv.Root, N x.Tx.Inv.Router, N x.Tx.Inv.Send, N x.Tx.Inv.Recv, N x.Tx.Inv.To, .string x.Tx.Inv.Id, U x.Tx.Var.Amount.a0, U x.Tx.Var.Amount.a1, U x.Tx.Var.Amount.a2, U x.Tx.Var.Amount.a3, N x.Tx.Var.Expiry, U x.Tx.Fee.a0, U x.Tx.Fee.a1, U x.Tx.Fee.a2, U x.Tx.Fee.a3, .string x.Tx.Sig]
def api_Send.z : api_Send := ⟨0, api_Tx.z⟩
structure client_out where
  recs : Unit
  mail : List api_Message
  sends : List api_Send
  deriving DecidableEq
def client_out.cs (x : client_out) (z0 z1 : Value) : List Value := [nilSl, z0, z1]
def client_out.z : client_out := ⟨(), [], []⟩
structure client_Client where
  user : Int
  d : Int
  root : ByteArray
  roots : List ByteArray
  room : Option auction_Room
  disk : Option disk_Disk
  deals : Unit
  down : Bool
  made : Bool
  out : client_out
def client_Client.cs (x : client_Client) (z0 z1 z2 z3 z4 : Value) : List Value := [N x.user, N x.d, .string x.root, z0, z1, z2, nilSl, .bool x.down, .bool x.made, nilSl, z3, z4]
def client_Client.z : client_Client := ⟨0, 0, ⟨#[]⟩, [], none, none, (), false, false, client_out.z⟩
structure A2_client_Client where
  a0 : Option client_Client
  a1 : Option client_Client
def A2_client_Client.cs (x : A2_client_Client) (z0 z1 : Value) : List Value := [z0, z1]
def A2_client_Client.list (x : A2_client_Client) : List (Option client_Client) := [x.a0, x.a1]
def A2_client_Client.set (x : A2_client_Client) (k : Nat) (v : (Option client_Client)) : A2_client_Client := ⟨if k = 0 then v else x.a0, if k = 1 then v else x.a1⟩
def A2_client_Client.z : A2_client_Client := ⟨none, none⟩
structure router_Router where
  router : Int
  d : Int
  disk : Option disk_Disk
  asks : List api_Ask
  bids : List api_Bid
  mirrors : Unit
  down : Bool
  made : Bool
def router_Router.cs (x : router_Router) (z0 z1 z2 : Value) : List Value := [N x.router, N x.d, z0, z1, z2, nilSl, .bool x.down, .bool x.made]
def router_Router.z : router_Router := ⟨0, 0, none, [], [], (), false, false⟩
structure A2_router_Router where
  a0 : Option router_Router
  a1 : Option router_Router
def A2_router_Router.cs (x : A2_router_Router) (z0 z1 : Value) : List Value := [z0, z1]
def A2_router_Router.list (x : A2_router_Router) : List (Option router_Router) := [x.a0, x.a1]
def A2_router_Router.set (x : A2_router_Router) (k : Nat) (v : (Option router_Router)) : A2_router_Router := ⟨if k = 0 then v else x.a0, if k = 1 then v else x.a1⟩
def A2_router_Router.z : A2_router_Router := ⟨none, none⟩
structure relay_Relay where
  jobs : List api_Message
  made : Bool
  deriving DecidableEq
def relay_Relay.cs (x : relay_Relay) (z0 : Value) : List Value := [z0, .bool x.made]
def relay_Relay.g (x : relay_Relay) (z : Value) : Asn := rows 43 z (x.jobs.map api_Message.cs)
def relay_Relay.z : relay_Relay := ⟨[], false⟩
structure A4_i64 where
  a0 : Int
  a1 : Int
  a2 : Int
  a3 : Int
  deriving DecidableEq
def A4_i64.cs (x : A4_i64) : List Value := [N x.a0, N x.a1, N x.a2, N x.a3]
def A4_i64.list (x : A4_i64) : List Int := [x.a0, x.a1, x.a2, x.a3]
def A4_i64.set (x : A4_i64) (k : Nat) (v : Int) : A4_i64 := ⟨if k = 0 then v else x.a0, if k = 1 then v else x.a1, if k = 2 then v else x.a2, if k = 3 then v else x.a3⟩
def A4_i64.z : A4_i64 := ⟨0, 0, 0, 0⟩
structure A4_bool where
  a0 : Bool
  a1 : Bool
  a2 : Bool
  a3 : Bool
  deriving DecidableEq
def A4_bool.cs (x : A4_bool) : List Value := [.bool x.a0, .bool x.a1, .bool x.a2, .bool x.a3]
def A4_bool.list (x : A4_bool) : List Bool := [x.a0, x.a1, x.a2, x.a3]
def A4_bool.set (x : A4_bool) (k : Nat) (v : Bool) : A4_bool := ⟨if k = 0 then v else x.a0, if k = 1 then v else x.a1, if k = 2 then v else x.a2, if k = 3 then v else x.a3⟩
def A4_bool.z : A4_bool := ⟨false, false, false, false⟩
structure world_place where
  side : Int
  tx : api_Tx
  deriving DecidableEq
def world_place.cs (x : world_place) : List Value := [N x.side, N x.tx.From, N x.tx.Nonce, N x.tx.Kind, N x.tx.Asset, U x.tx.Amount.a0, U x.tx.Amount.a1, U x.tx.Amount.a2, U x.tx.Amount.a3, N x.tx.Inv.User, .string x.tx.Inv.Root, N x.tx.Inv.Router, N x.tx.Inv.Send, N x.tx.Inv.Recv, N x.tx.Inv.To, .string x.tx.Inv.Id, U x.tx.Var.Amount.a0, U x.tx.Var.Amount.a1, U x.tx.Var.Amount.a2, U x.tx.Var.Amount.a3, N x.tx.Var.Expiry, U x.tx.Fee.a0, U x.tx.Fee.a1, U x.tx.Fee.a2, U x.tx.Fee.a3, .string x.tx.Sig]
def world_place.z : world_place := ⟨0, api_Tx.z⟩
structure world_word where
  inv : api_Inv
  fee : api_Wide
  sig : ByteArray
  deriving DecidableEq
def world_word.cs (x : world_word) : List Value := [N x.inv.User, .string x.inv.Root, N x.inv.Router, N x.inv.Send, N x.inv.Recv, N x.inv.To, .string x.inv.Id, U x.fee.a0, U x.fee.a1, U x.fee.a2, U x.fee.a3, .string x.sig]
def world_word.z : world_word := ⟨api_Inv.z, api_Wide.z, ⟨#[]⟩⟩
structure world_data where
  Inv : api_Inv
  Var : api_Var
  deriving DecidableEq
def world_data.cs (x : world_data) : List Value := [N x.Inv.User, .string x.Inv.Root, N x.Inv.Router, N x.Inv.Send, N x.Inv.Recv, N x.Inv.To, .string x.Inv.Id, U x.Var.Amount.a0, U x.Var.Amount.a1, U x.Var.Amount.a2, U x.Var.Amount.a3, N x.Var.Expiry]
def world_data.z : world_data := ⟨api_Inv.z, api_Var.z⟩
structure A2_i64 where
  a0 : Int
  a1 : Int
  deriving DecidableEq
def A2_i64.cs (x : A2_i64) : List Value := [N x.a0, N x.a1]
def A2_i64.list (x : A2_i64) : List Int := [x.a0, x.a1]
def A2_i64.set (x : A2_i64) (k : Nat) (v : Int) : A2_i64 := ⟨if k = 0 then v else x.a0, if k = 1 then v else x.a1⟩
def A2_i64.z : A2_i64 := ⟨0, 0⟩
structure world_World where
  setup : world_Setup
  sides : A2_chain_Chain
  clients : A2_client_Client
  routers : A2_router_Router
  relay : Option relay_Relay
  mail : Unit
  now : Int
  seen : A4_i64
  late : A4_bool
  since : Option (List (world_place × Int))
  told : Option (List (world_word × Bool))
  keys : Option (List (ByteArray × api_Inv))
  digests : Option (List (ByteArray × world_data))
  asked : A2_i64
  forged : Bool
  clash : Bool
def world_World.cs (x : world_World) (z0 z1 z2 z3 z4 z5 z6 z7 z8 z9 z10 : Value) : List Value := [N x.setup.Delay, N x.setup.Skew, N x.setup.Corrupt, N x.setup.Room, z0, z1, z2, z3, z4, z5, z6, nilSl, N x.now, N x.seen.a0, N x.seen.a1, N x.seen.a2, N x.seen.a3, .bool x.late.a0, .bool x.late.a1, .bool x.late.a2, .bool x.late.a3, z7, z8, z9, z10, N x.asked.a0, N x.asked.a1, .bool x.forged, .bool x.clash]
def world_World.z : world_World := ⟨world_Setup.z, A2_chain_Chain.z, A2_client_Client.z, A2_router_Router.z, none, (), 0, A4_i64.z, A4_bool.z, none, none, none, none, A2_i64.z, false, false⟩
theorem fa_23_0 : FaV Tryz.prog 23 0 0 := .mk runUnderlying23 rfl sizeOf3 rfl rfl
theorem fa_23_1 : FaV Tryz.prog 23 1 1 := .mk runUnderlying23 rfl sizeOf3 rfl rfl
theorem fa_23_2 : FaV Tryz.prog 23 2 2 := .mk runUnderlying23 rfl sizeOf3 rfl rfl
theorem fa_23_3 : FaV Tryz.prog 23 3 3 := .mk runUnderlying23 rfl sizeOf3 rfl rfl
theorem fa_70_0 : FaV Tryz.prog 70 0 0 := .mk runUnderlying70 rfl sizeOf3 rfl rfl
theorem fa_70_1 : FaV Tryz.prog 70 1 1 := .mk runUnderlying70 rfl sizeOf3 rfl rfl
theorem fa_70_2 : FaV Tryz.prog 70 2 2 := .mk runUnderlying70 rfl sizeOf3 rfl rfl
theorem fa_70_3 : FaV Tryz.prog 70 3 3 := .mk runUnderlying70 rfl sizeOf3 rfl rfl
theorem fa_70_4 : FaV Tryz.prog 70 4 4 := .mk runUnderlying70 rfl sizeOf68 rfl rfl
abbrev chain_Chain.bd (g : Nat × Value × Value × Value) : Nat := g.1
def chain_Chain.fp (x : chain_Chain) (g : Nat × Value × Value × Value) (M : List Asn) : List Asn := blk g.1 99 (chain_Chain.cs x g.2.1 g.2.2.1 g.2.2.2) :: lst 152 3 g.2.1 (x.s.Locks.map escrow_Lock.cs) :: lst 42 25 g.2.2.1 (x.pool.map api_Tx.cs) :: lst 44 27 g.2.2.2 (x.events.map api_Event.cs) :: M
abbrev auction_Room.bd (g : Nat × Value) : Nat := g.1
def auction_Room.fp (x : auction_Room) (g : Nat × Value) (M : List Asn) : List Asn := blk g.1 204 (auction_Room.cs x g.2) :: lst 9 1 g.2 (x.roots.map (fun x => [.string x])) :: M
abbrev disk_Disk.bd (g : Nat × Value) : Nat := g.1
def disk_Disk.fp (x : disk_Disk) (g : Nat × Value) (M : List Asn) : List Asn := blk g.1 196 (disk_Disk.cs x g.2) :: lst 5 1 g.2 (x.b.map (fun x => [B8 x])) :: M
abbrev client_Client.bd (g : Nat × Value × Value × Value × Value × Value) : Nat := g.1
def client_Client.fp (x : client_Client) (g : Nat × Value × Value × Value × Value × Value) (M : List Asn) : List Asn := blk g.1 147 (client_Client.cs x g.2.1 g.2.2.1 g.2.2.2.1 g.2.2.2.2.1 g.2.2.2.2.2) :: lst 9 1 g.2.1 (x.roots.map (fun x => [.string x])) :: bx auction_Room.bd auction_Room.fp g.2.2.1 x.room :: bx disk_Disk.bd disk_Disk.fp g.2.2.2.1 x.disk :: lst 162 43 g.2.2.2.2.1 (x.out.mail.map api_Message.cs) :: lst 167 26 g.2.2.2.2.2 (x.out.sends.map api_Send.cs) :: M
abbrev router_Router.bd (g : Nat × Value × Value × Value) : Nat := g.1
def router_Router.fp (x : router_Router) (g : Nat × Value × Value × Value) (M : List Asn) : List Asn := blk g.1 135 (router_Router.cs x g.2.1 g.2.2.1 g.2.2.2) :: bx disk_Disk.bd disk_Disk.fp g.2.1 x.disk :: lst 158 9 g.2.2.1 (x.asks.map api_Ask.cs) :: lst 160 16 g.2.2.2 (x.bids.map api_Bid.cs) :: M
abbrev relay_Relay.bd (g : Nat × Value) : Nat := g.1
def relay_Relay.fp (x : relay_Relay) (g : Nat × Value) (M : List Asn) : List Asn := blk g.1 149 (relay_Relay.cs x g.2) :: lst 162 43 g.2 (x.jobs.map api_Message.cs) :: M
abbrev world_World.bd (g : Nat × Value × Value × Value × Value × Value × Value × Value × Value × Value × Value × Value) : Nat := g.1
def world_World.fp (x : world_World) (g : Nat × Value × Value × Value × Value × Value × Value × Value × Value × Value × Value × Value) (M : List Asn) : List Asn := blk g.1 83 (world_World.cs x g.2.1 g.2.2.1 g.2.2.2.1 g.2.2.2.2.1 g.2.2.2.2.2.1 g.2.2.2.2.2.2.1 g.2.2.2.2.2.2.2.1 g.2.2.2.2.2.2.2.2.1 g.2.2.2.2.2.2.2.2.2.1 g.2.2.2.2.2.2.2.2.2.2.1 g.2.2.2.2.2.2.2.2.2.2.2) :: bx chain_Chain.bd chain_Chain.fp g.2.1 x.sides.a0 :: bx chain_Chain.bd chain_Chain.fp g.2.2.1 x.sides.a1 :: bx client_Client.bd client_Client.fp g.2.2.2.1 x.clients.a0 :: bx client_Client.bd client_Client.fp g.2.2.2.2.1 x.clients.a1 :: bx router_Router.bd router_Router.fp g.2.2.2.2.2.1 x.routers.a0 :: bx router_Router.bd router_Router.fp g.2.2.2.2.2.2.1 x.routers.a1 :: bx relay_Relay.bd relay_Relay.fp g.2.2.2.2.2.2.2.1 x.relay :: mb (fun (x : world_place) => Ag x.cs) (fun (x : Int) => N x) g.2.2.2.2.2.2.2.2.1 x.since :: mb (fun (x : world_word) => Ag x.cs) (fun (x : Bool) => Bo x) g.2.2.2.2.2.2.2.2.2.1 x.told :: mb (fun (x : ByteArray) => Value.string x) (fun (x : api_Inv) => Ag x.cs) g.2.2.2.2.2.2.2.2.2.2.1 x.keys :: mb (fun (x : ByteArray) => Value.string x) (fun (x : world_data) => Ag x.cs) g.2.2.2.2.2.2.2.2.2.2.2 x.digests :: M
theorem pl_23 : ∀ w, ((#[{ name := "Delay", type := 3, offset := 0, embedded := false, tag := "", pkgPath := "", byteOffset := 0 }, { name := "Skew", type := 3, offset := 1, embedded := false, tag := "", pkgPath := "", byteOffset := 8 }, { name := "Corrupt", type := 3, offset := 2, embedded := false, tag := "", pkgPath := "", byteOffset := 16 }, { name := "Room", type := 3, offset := 3, embedded := false, tag := "", pkgPath := "", byteOffset := 24 }] : Array Field).mapM fun f => do pure (f.offset, ← sizeOf f.type) : Sem (Array (Nat × Nat))).run Tryz.prog w = .ok #[(0, 1), (1, 1), (2, 1), (3, 1)] w := fun w => by simp [sizeOf3]
theorem pl_70 : ∀ w, ((#[{ name := "Kind", type := 3, offset := 0, embedded := false, tag := "", pkgPath := "", byteOffset := 0 }, { name := "A", type := 3, offset := 1, embedded := false, tag := "", pkgPath := "", byteOffset := 8 }, { name := "B", type := 3, offset := 2, embedded := false, tag := "", pkgPath := "", byteOffset := 16 }, { name := "C", type := 3, offset := 3, embedded := false, tag := "", pkgPath := "", byteOffset := 24 }, { name := "Data", type := 68, offset := 4, embedded := false, tag := "", pkgPath := "", byteOffset := 32 }] : Array Field).mapM fun f => do pure (f.offset, ← sizeOf f.type) : Sem (Array (Nat × Nat))).run Tryz.prog w = .ok #[(0, 1), (1, 1), (2, 1), (3, 1), (4, 1)] w := fun w => by simp [sizeOf3, sizeOf68]
theorem pl_83 : ∀ w, ((#[{ name := "setup", type := 23, offset := 0, embedded := false, tag := "", pkgPath := "narrows/world", byteOffset := 0 }, { name := "sides", type := 71, offset := 4, embedded := false, tag := "", pkgPath := "narrows/world", byteOffset := 32 }, { name := "clients", type := 72, offset := 6, embedded := false, tag := "", pkgPath := "narrows/world", byteOffset := 48 }, { name := "routers", type := 73, offset := 8, embedded := false, tag := "", pkgPath := "narrows/world", byteOffset := 64 }, { name := "relay", type := 74, offset := 10, embedded := false, tag := "", pkgPath := "narrows/world", byteOffset := 80 }, { name := "mail", type := 46, offset := 11, embedded := false, tag := "", pkgPath := "narrows/world", byteOffset := 88 }, { name := "now", type := 3, offset := 12, embedded := false, tag := "", pkgPath := "narrows/world", byteOffset := 112 }, { name := "seen", type := 75, offset := 13, embedded := false, tag := "", pkgPath := "narrows/world", byteOffset := 120 }, { name := "late", type := 76, offset := 17, embedded := false, tag := "", pkgPath := "narrows/world", byteOffset := 152 }, { name := "since", type := 77, offset := 21, embedded := false, tag := "", pkgPath := "narrows/world", byteOffset := 160 }, { name := "told", type := 78, offset := 22, embedded := false, tag := "", pkgPath := "narrows/world", byteOffset := 168 }, { name := "keys", type := 79, offset := 23, embedded := false, tag := "", pkgPath := "narrows/world", byteOffset := 176 }, { name := "digests", type := 80, offset := 24, embedded := false, tag := "", pkgPath := "narrows/world", byteOffset := 184 }, { name := "asked", type := 81, offset := 25, embedded := false, tag := "", pkgPath := "narrows/world", byteOffset := 192 }, { name := "forged", type := 4, offset := 27, embedded := false, tag := "", pkgPath := "narrows/world", byteOffset := 208 }, { name := "clash", type := 4, offset := 28, embedded := false, tag := "", pkgPath := "narrows/world", byteOffset := 209 }] : Array Field).mapM fun f => do pure (f.offset, ← sizeOf f.type) : Sem (Array (Nat × Nat))).run Tryz.prog w = .ok #[(0, 4), (4, 2), (6, 2), (8, 2), (10, 1), (11, 1), (12, 1), (13, 4), (17, 4), (21, 1), (22, 1), (23, 1), (24, 1), (25, 2), (27, 1), (28, 1)] w := fun w => by simp [sizeOf3, sizeOf4, sizeOf23, sizeOf46, sizeOf71, sizeOf72, sizeOf73, sizeOf74, sizeOf75, sizeOf76, sizeOf77, sizeOf78, sizeOf79, sizeOf80, sizeOf81]
theorem one_5 (x : UInt8) : oneAll ((fun x => [B8 x]) x) = true := rfl
theorem onez_70 (x : api_Step) {z0 : Value} (hz0 : z0.oneCell' = true) : oneAll (api_Step.cs x z0) = true := by
  simp only [oneAll, api_Step.cs, List.all_cons, List.all_nil, hz0]
  rfl
noncomputable def script_odd_1 (a0 : Int) : Bool :=
  thn (if (decide (a0 < (-32768))) = true then true else (decide (a0 ≥ 32768))) fun (y1 : Bool) => y1
set_option maxRecDepth 20000 in
set_option maxHeartbeats 8000000 in
theorem S_script_odd_1 (a0 : Int) (r : Bool) (h : script_odd_1 a0 = r) :
    SpecF Tryz.prog 103 [N a0] [] [] (fun z : Unit => True) (fun z => Bo r) (fun z M =>  M) (fun z M =>  M) := by
  refine .of func103 rfl ntmps103 rfl fun w0 D0 G0 => ?_
  unfold script_odd_1 at h
  refine .seq <| .reg rfl <| .op0 (OpP.toV (P.asg .k)) rfl <| .nil <| .then ?_
  obtain ⟨y1, hj3, h⟩ := thn_eq h
  refine .cutx (γ := Unit) (E1 := fun z2 => [(2, Bo y1)]) (L1 := fun z2 => []) (R1 := fun z2 => []) ?_ (fun z2 => ?_)
  · clear h
    refine .reg rfl <| .opp (P.mov .g0) rfl <| .opp (P.bin .t0 .k .lss) rfl <| .opp (P.mov .t0) rfl <| .split .k0 (fun c4 => ?_) (fun c4 => ?_)
    · rw [if_pos c4] at hj3
      refine .gno rfl .g0 rfl rfl <| .gno rfl .g0 rfl rfl <| .opp (P.pickT .t0 .k) rfl <| .opp (P.asg .t0) rfl <| .nil ?_
      subst hj3
      exact .stj () (.cons Mm.m0 .nil) (.of .nil) .nil
    · rw [if_neg (ne_true_of_eq_false c4)] at hj3
      refine .gyes rfl .g0 <| .opp (P.mov .t1) rfl <| .gyes rfl .g1 <| .opp (P.bin .t0 .k .geq) rfl <| .opp (P.pickF .t1 .t0) rfl <| .opp (P.asg .t0) rfl <| .nil ?_
      subst hj3
      exact .stj () (.cons Mm.m0 .nil) (.of .nil) .nil
  · clear hj3
    refine .ret ?_
    subst h
    exact .finw () (.r1 rfl (.tmp .g0)) trivial (Ls.of .nil) .nil
attribute [irreducible] script_odd_1
noncomputable def slices_IndexFunc_int_script_odd_1 (a0 : List Int) : Option (Int) :=
  Option.bind (loopR (fun (i1 : Nat) (e4 : Int) (s2 : Unit) => if (script_odd_1 e4) = true then (Option.map Ct.rt (some (i1 : Int))) else (some (.nx ()))) 0 a0 ()) fun o5 => Lo.on o5 fun (s2 : Unit) => some (-1)
set_option maxRecDepth 20000 in
set_option maxHeartbeats 8000000 in
theorem S_slices_IndexFunc_int_script_odd_1 (v00 : Value) (a0 : List Int) (r : Int) (h : slices_IndexFunc_int_script_odd_1 a0 = some r) :
    SpecF Tryz.prog 143 [v00, fnv 103 []] [] [rows 1 v00 (a0.map (fun x => [N x]))] (fun z : Unit => True) (fun z => N r) (fun z M =>  M) (fun z M =>  M) := by
  refine .of func143 rfl ntmps143 rfl fun w0 D0 G0 => ?_
  unfold slices_IndexFunc_int_script_odd_1 at h
  refine .seq <| .reg rfl <| .op0 (OpP.toV (P.asg .k)) rfl <| .nil <| .then <| .seq <| .seq <| .reg rfl <| .opp (P.mov .g0) rfl <| .op (V.lnr (n := a0.length) .t0 Mm.m0 map_len runUnderlying89) rfl <| .opp (P.mov .k) rfl <| .nil ?_
  refine .then <| .block ?_
  obtain ⟨o5, ho6, h⟩ := bnd_eq h
  refine .lenq Mm.m0 fun hl12 => ?_
  rw [map_len] at hl12
  refine .loopR (γ := Unit) (fun i1 (s2 : Unit) z3 => [(8, N (i1 : Int)), (7, N (a0.length : Int)), (0, v00), (1, fnv 103 [])]) (fun (s2 : Unit) z3 => []) (fun (s2 : Unit) z3 => [rows 1 v00 (a0.map (fun x => [N x]))]) () ho6 (.cons Mm.m0 (.cons Mm.m1 (.cons Mm.m2 (.cons Mm.m3 .nil)))) (.of .nil) (.cons Mm.m0 .nil) (fun i1 s2 z3 hi13 hr9 => ?_)
  refine .seq <| .reg rfl <| .opp (P.bin (v := Bo (decide ((i1 : Int) < (a0.length : Nat)))) .g0 .g1 .lss) rfl <| .nil <| .then <| .seq <| .cond .t0 (fun c14 => ?_) (fun c14 => ?_)
  · obtain ⟨e4, hx11⟩ := get_of c14
    obtain ⟨ct10, hc7, hn8⟩ := loopR_at hx11 hr9
    refine .skip <| .then <| .seq <| .block <| .seq <| .reg rfl <| .opp (P.mov .g0) rfl <| .opp (P.asg .t0) rfl <| .nil <| .then <| .seq <| .reg rfl ?_
    refine .opp (P.mov .g4) rfl <| .opp (P.mov .g4) rfl <| .opp (P.mov .g2) rfl <| .ixq Mm.m0 (map_get hx11) fun p15 q16 hq17 => .opp (P.ixi (i := i1) .t0 rfl .t0 hq17 runUnderlying89 sizeOf3) rfl <| .op (V.ldx0 (u := N e4) .t0 hq17 Mm.m0 (map_get hx11) (.one isAgg3 rfl)) rfl <| .opg (G.callv call103 .t1 (.cons .t0 .nil) (S_script_odd_1 e4 _ rfl) .nil .nil (fun _ _ => rfl) (fun _ _ => rfl) rfl) rfl fun _ _ => .nil <| .then <| .cond .t0 (fun c18 => ?_) (fun c18 => ?_)
    · rw [if_pos c18] at hc7
      refine .seq <| .reg rfl <| .opp (P.mov .t0) rfl <| .opp (P.asg .t0) rfl <| .nil <| .then <| .ret <| .inr <| .thr ?_
      obtain ⟨x19, hx20, rfl⟩ := map_rt hc7
      obtain rfl := hn8
      obtain rfl := rt_on h
      refine .thr <| .inr <| .thr ?_
      cases hx20
      exact .finw () (.r1 rfl (.tmp .g0)) trivial (Ls.of .nil) .nil
    · rw [if_neg (ne_true_of_eq_false c18)] at hc7
      refine .skip <| .inn <| .then <| .reg rfl <| .opp (P.bin .g1 .k (.addc (inc_ok (lt_of_get hx11) hl12))) rfl <| .drop .k2 <| .opp (P.mov .t0) rfl <| .nil ?_
      cases hc7
      exact .rdR () () hn8 (lt_of_get hx11) (.cons Mm.m0 (.cons Mm.m2 (.cons Mm.m3 (.cons Mm.m4 .nil)))) (.of .nil) (.cons Mm.m0 .nil)
  · obtain rfl := loopR_end (le_of_not c14) hr9
    have h := dn_on h
    refine .exit <| .thx <| .thx <| .inb <| .then <| .seq <| .reg rfl <| .opp (P.asg .k) rfl <| .nil <| .then <| .ret ?_
    cases h
    exact .finw () (.r1 rfl (.tmp .g0)) trivial (Ls.of .nil) .nil
attribute [irreducible] slices_IndexFunc_int_script_odd_1
noncomputable def slices_ContainsFunc_int_script_odd_1 (a0 : List Int) : Option (Bool) :=
  Option.bind (slices_IndexFunc_int_script_odd_1 a0) fun r1 => some (decide (r1 ≥ 0))
set_option maxRecDepth 20000 in
set_option maxHeartbeats 8000000 in
theorem S_slices_ContainsFunc_int_script_odd_1 (v00 : Value) (a0 : List Int) (r : Bool) (h : slices_ContainsFunc_int_script_odd_1 a0 = some r) :
    SpecF Tryz.prog 102 [v00, fnv 103 []] [] [rows 1 v00 (a0.map (fun x => [N x]))] (fun z : Unit => True) (fun z => Bo r) (fun z M =>  M) (fun z M =>  M) := by
  refine .of func102 rfl ntmps102 rfl fun w0 D0 G0 => ?_
  unfold slices_ContainsFunc_int_script_odd_1 at h
  refine .seq <| .reg rfl <| .op0 (OpP.toV (P.asg .k)) rfl <| .nil <| .then <| .seq <| .reg rfl <| .opp (P.mov .t0) rfl <| .opp (P.mov .t1) rfl ?_
  obtain ⟨r1, hr2, h⟩ := bnd_eq h
  refine .opg (G.call call143 (.cons .t1 (.cons .t0 .nil)) (S_slices_IndexFunc_int_script_odd_1 v00 a0 r1 hr2) .nil (.cons Mm.m0 .nil) (fun _ _ => rfl) (fun _ _ => rfl) rfl) rfl fun _ _ => .opp (P.bin .t0 .k .geq) rfl <| .opp (P.asg .t0) rfl <| .nil <| .then <| .ret ?_
  cases h
  exact .finw () (.r1 rfl (.tmp .g0)) trivial (Ls.of .nil) .nil
attribute [irreducible] slices_ContainsFunc_int_script_odd_1
noncomputable def script_odd (a0 : api_Step) : Option (Bool) :=
  Option.bind (if (decide (a0.Kind < 0)) = true then (some true) else (if (decide (a0.Kind > 255)) = true then (some true) else (Option.bind (slices_ContainsFunc_int_script_odd_1 ([a0.A, a0.B, a0.C] : List Int)) fun r8 => some r8))) fun (y2 : Bool) => some y2
set_option maxRecDepth 20000 in
set_option maxHeartbeats 8000000 in
theorem S_script_odd (a0 : api_Step) (z00a : Value) (r : Bool) (h : script_odd a0 = some r) :
    SpecF Tryz.prog 59 [Ag (api_Step.cs a0 z00a)] [] [rows 1 z00a (a0.Data.map (fun x => [B8 x]))] (fun z : Unit => True) (fun z => Bo r) (fun z M =>  M) (fun z M =>  M) := by
  refine .of func59 rfl ntmps59 rfl fun w0 D0 G0 => ?_
  unfold script_odd at h
  refine .seq <| .reg rfl <| .opx (X.box (cs := (api_Step.cs a0 z00a)) .t0 rfl) rfl fun b1 => .op0 (OpP.toV (P.asg .k)) rfl <| .nil <| .then ?_
  obtain ⟨y2, hj4, h⟩ := bnd_eq h
  refine .cutx (γ := Unit) (E1 := fun z3 => [(2, Bo y2)]) (L1 := fun z3 => []) (R1 := fun z3 => [rows 1 z00a (a0.Data.map (fun x => [B8 x]))]) ?_ (fun z3 => ?_)
  · clear h
    refine .reg rfl <| .opp (P.fa .g0 fa_70_0 rfl) rfl <| .op (V.ld (v := N a0.Kind) .t0 .k0 (.one isAgg3 rfl)) rfl <| .opp (P.bin .t0 .k .lss) rfl <| .opp (P.mov .t0) rfl <| .split .k0 (fun c5 => ?_) (fun c5 => ?_)
    · rw [if_pos c5] at hj4
      refine .gno rfl .g0 rfl rfl <| .gno rfl .g0 rfl rfl <| .gno rfl .g0 rfl rfl <| .opp (P.pickT .t0 .k) rfl <| .opp (P.mov .t0) rfl <| .gno rfl .g0 rfl rfl <| .gno rfl .g0 rfl rfl <| .gno rfl .g0 rfl rfl <| .gno rfl .g0 rfl rfl <| .gno rfl .g0 rfl rfl <| .gno rfl .g0 rfl rfl <| .gno rfl .g0 rfl rfl ?_
      refine .gno rfl .g0 rfl rfl <| .opp (P.pickT .t0 .k) rfl <| .opp (P.asg .t0) rfl <| .nil ?_
      cases hj4
      exact .stj () (.cons Mm.m0 .nil) (.of .nil) (.cons Mm.m0 .nil)
    · rw [if_neg (ne_true_of_eq_false c5)] at hj4
      refine .gyes rfl .g0 <| .opp (P.fa .g1 fa_70_0 rfl) rfl <| .gyes rfl .g1 <| .op (V.ld (v := N a0.Kind) .t0 .k0 (.one isAgg3 rfl)) rfl <| .gyes rfl .g1 <| .opp (P.bin .t0 .k .gtr) rfl <| .opp (P.pickF .t1 .t0) rfl <| .opp (P.mov .t0) rfl <| .split .k0 (fun c6 => ?_) (fun c6 => ?_)
      · rw [if_pos c6] at hj4
        refine .gno rfl .g0 rfl rfl <| .gno rfl .g0 rfl rfl <| .gno rfl .g0 rfl rfl <| .gno rfl .g0 rfl rfl <| .gno rfl .g0 rfl rfl <| .gno rfl .g0 rfl rfl <| .gno rfl .g0 rfl rfl <| .gno rfl .g0 rfl rfl <| .opp (P.pickT .t0 .k) rfl <| .opp (P.asg .t0) rfl <| .nil ?_
        cases hj4
        exact .stj () (.cons Mm.m0 .nil) (.of .nil) (.cons Mm.m0 .nil)
      · rw [if_neg (ne_true_of_eq_false c6)] at hj4
        refine .gyes rfl .g0 <| .opp (P.fa .g1 fa_70_1 rfl) rfl <| .gyes rfl .g1 <| .op (V.ld (v := N a0.A) .t0 .k0 (.one isAgg3 rfl)) rfl <| .gyes rfl .g1 <| .opp (P.fa .g2 fa_70_2 rfl) rfl <| .gyes rfl .g2 <| .op (V.ld (v := N a0.B) .t0 .k0 (.one isAgg3 rfl)) rfl <| .gyes rfl .g2 <| .opp (P.fa .t3 fa_70_3 rfl) rfl <| .gyes rfl .g3 <| .op (V.ld (v := N a0.C) .t0 .k0 (.one isAgg3 rfl)) rfl ?_
        refine .gyes rfl .g3 <| .opg (G.bsln (xs := [[N a0.A], [N a0.B], [N a0.C]]) (.cons .t2 (.cons .t1 (.cons .t0 .nil))) runUnderlying89 sizeOf3 zeroValue3 (by kernel_rfl) rfl rfl rfl rfl rfl) rfl fun u7 _ => .gyes rfl .g1 <| .frz .k0 ?_
        obtain ⟨r8, hr9, hj4⟩ := bnd_eq hj4
        refine .opg (G.call call102 (.cons .t0 (.cons .f .nil)) (S_slices_ContainsFunc_int_script_odd_1 u7 ([a0.A, a0.B, a0.C] : List Int) r8 hr9) .nil (.cons Mm.m0 .nil) (fun _ _ => rfl) (fun _ _ => rfl) rfl) rfl fun _ _ => .opp (P.pickF .t1 .t0) rfl <| .opp (P.asg .t0) rfl <| .nil ?_
        cases hj4
        exact .stj () (.cons Mm.m0 .nil) (.of .nil) (.cons Mm.m1 .nil)
  · clear hj4
    refine .ret ?_
    cases h
    exact .finw () (.r1 rfl (.tmp .g0)) trivial (Ls.of .nil) .nil
attribute [irreducible] script_odd
noncomputable def slices_Backward_byte  : Unit :=
  ()
set_option maxRecDepth 20000 in
set_option maxHeartbeats 8000000 in
theorem S_slices_Backward_byte (v00 : Value) (hv00 : IsSl v00) (r : Unit) (h : slices_Backward_byte  = r) :
    SpecF Tryz.prog 137 [v00] [] [] (fun z : Nat => True) (fun z => fnv 199 [pt z 0]) (fun z M => blk z 68 [v00] ::  M) (fun z M =>  M) := by
  refine .of func137 rfl ntmps137 rfl fun w0 D0 G0 => ?_
  unfold slices_Backward_byte at h
  refine .seq <| .reg rfl <| .opx (X.box (cs := [v00]) .t0 hv00.cells) rfl fun b1 => .op0 (OpP.toV (P.asg .k)) rfl <| .nil <| .then <| .seq <| .reg rfl <| .opp (P.mkf (.cons .t0 .nil)) rfl <| .opp (P.asg .t0) rfl <| .nil <| .then ?_
  refine .ret ?_
  subst h
  exact .finw b1 (.r1 rfl (.tmp .g0)) trivial (Ls.of (.cons .k0 .nil)) .nil
attribute [irreducible] slices_Backward_byte
noncomputable def blob_Num (a0 : Int) (a1 : Int) : Option ((List UInt8)) :=
  grd (0 ≤ (if 8 < (if 0 > a1 then 0 else a1) then 8 else if 0 > a1 then 0 else a1) ∧ (if 8 < (if 0 > a1 then 0 else a1) then 8 else if 0 > a1 then 0 else a1) * 1 ≤ 140737488355328) <| Option.bind (loopW (fun (s14 : Int × (List UInt8) × (List UInt8) × Int) => if (decide (s14.1 ≥ 0)) = true then (Option.bind (at_ s14.2.1 s14.1) fun (x27 : UInt8) => Option.bind (at_ s14.2.1 s14.1) fun (x36 : UInt8) => some (.nx ((IntKind.i64.wrap (s14.1 - 1), (s14.2.1.set (s14.1).toNat (B8i s14.2.2.2 : UInt8)), (s14.2.1.set (s14.1).toNat (B8i s14.2.2.2 : UInt8)), shrK .i64 s14.2.2.2 8)))) else (some (.br (s14.1, s14.2.1, s14.2.1, s14.2.2.2)))) ((IntKind.i64.wrap (((List.replicate (if 8 < (if 0 > a1 then 0 else a1) then 8 else if 0 > a1 then 0 else a1).toNat (0 : UInt8)).length : Int) - 1), (List.replicate (if 8 < (if 0 > a1 then 0 else a1) then 8 else if 0 > a1 then 0 else a1).toNat (0 : UInt8)), (List.replicate (if 8 < (if 0 > a1 then 0 else a1) then 8 else if 0 > a1 then 0 else a1).toNat (0 : UInt8)), a0))) fun o16 => Lo.on o16 fun (s14 : Int × (List UInt8) × (List UInt8) × Int) => some s14.2.1
set_option maxRecDepth 20000 in
set_option maxHeartbeats 8000000 in
theorem S_blob_Num (a0 : Int) (a1 : Int) (r : (List UInt8)) (h : blob_Num a0 a1 = some r) :
    SpecF Tryz.prog 92 [N a0, N a1] [] [] (fun z : Value => True) (fun z => z) (fun z M => lst 5 1 z (r.map (fun x => [B8 x])) ::  M) (fun z M =>  M) := by
  refine .of func92 rfl ntmps92 rfl fun w0 D0 G0 => ?_
  unfold blob_Num at h
  refine .seq <| .reg rfl <| .opx (X.box (cs := [N a0]) .t0 rfl) rfl fun b1 => .op0 (OpP.toV (P.asg .k)) rfl <| .nil <| .then <| .seq <| .reg rfl <| .opp (P.mov .t1) rfl <| .opp (P.max2 .t0 .k) rfl <| .opp (P.min2 .t0 .k) rfl ?_
  obtain ⟨hb3, h⟩ := grd_eq h
  refine .opg (G.mks (by_ := 1) (cs := [B8 0]) .g0 .t0 runUnderlying68 sizeOf5 typeInfo5 rfl zeroValue5 rfl rfl rfl rfl hb3.1 hb3.2 rfl) rfl fun u2 _ => .conseq .k0 (q := lst 5 1 u2 ((List.replicate (if 8 < (if 0 > a1 then 0 else a1) then 8 else if 0 > a1 then 0 else a1).toNat (0 : UInt8)).map (fun x => [B8 x]))) (fun _ hh => by simpa [List.map_replicate] using hh) <| .opx (X.alc (cs := [nilSl]) zeroValue68 rfl) rfl fun b4 => .onel .k1 fun ho5 => .opg (G.str .t1 .g0 .k0 (.mk1 (cs' := [u2]) sizeOf68 rfl ho5 rfl rfl)) rfl fun _ _ => .nil <| .then <| .seq <| .seq <| .reg rfl <| .op (V.ld (v := u2) .g0 .k0 (.one isAgg68 rfl)) rfl <| .cell .k1 fun hv6 => ?_
  refine .opg (G.call call137 (.cons .t0 .nil) (S_slices_Backward_byte u2 hv6 _ rfl) .nil .nil (fun _ _ => rfl) (fun _ _ => rfl) rfl) rfl fun b7 _ => .nil <| .then <| .block <| .rangeF rfl .t0 call199 func199 rfl ntmps199 rfl fun a8 O9 D10 l11 ha12 hO13 => .seq <| .reg rfl <| .op (V.ld (v := u2) .g1 .k2 (.one isAgg68 rfl)) rfl <| .op (V.lnl (n := (List.replicate (if 8 < (if 0 > a1 then 0 else a1) then 8 else if 0 > a1 then 0 else a1).toNat (0 : UInt8)).length) .t0 .k4 map_len runUnderlying68) rfl <| .opp (P.bin .t0 .k .sub) rfl <| .opp (P.asg .t0) rfl <| .nil ?_
  refine .then <| .block ?_
  obtain ⟨o16, ho17, h⟩ := bnd_eq h
  refine .loopW (γ := Unit) (fun (s14 : Int × (List UInt8) × (List UInt8) × Int) z15 => [(3, N s14.1), (0, yv l11), (1, pt b7 0)]) (fun (s14 : Int × (List UInt8) × (List UInt8) × Int) z15 => [blk b7 68 [u2], blk b4 68 [u2], blk b1 3 [N s14.2.2.2], lst 5 1 u2 (s14.2.1.map (fun x => [B8 x])), obj l11 (O9 .ready none), obj D10 (.deferred (some []))]) (fun (s14 : Int × (List UInt8) × (List UInt8) × Int) z15 => []) () ho17 (.cons Mm.m0 (.cons Mm.m1 (.cons Mm.m2 .nil))) (.of (.cons .k2 (.cons .k2 (.cons .k3 (.cons .k2 (.cons .k0 (.cons .k0 .nil))))))) .nil (fun n22 s14 z15 hr20 => ?_)
  obtain ⟨ct21, hc18, hn19⟩ := loopK_at hr20
  refine .seq <| .seq <| .reg rfl <| .opp (P.mov .g0) rfl <| .opp (P.bin .t0 .k .geq) rfl <| .nil <| .then <| .cond .t0 (fun c23 => ?_) (fun c23 => ?_)
  · rw [if_pos c23] at hc18
    refine .skip <| .then <| .seq <| .block <| .seq <| .regY 6 rfl <| .opp (P.mov .g1) rfl <| .opp (P.mov .g1) rfl <| .op (V.ld (v := u2) .g4 .k0 (.one isAgg68 rfl)) rfl <| .opp (P.mov .g3) rfl ?_
    obtain ⟨x27, hx28, hc18⟩ := bnd_eq hc18
    obtain ⟨i29, hi30, hx28⟩ := at_eq hx28
    have hi30_ : (s14.1).toNat = i29 := by rw [hi30]; rfl
    refine .ixql .k3 (map_get hx28) fun p24 q25 hq26 => .opp (P.ixi (i := i29) .t0 hi30 .t0 hq26 runUnderlying68 sizeOf5) rfl <| .op (V.ldxl0 (u := B8 x27) .t0 hq26 .k3 (map_get hx28) (.one isAgg5 rfl)) rfl <| .nil <| .then <| .yield (ps := [13, 14]) .t2 (.cons .t1 (.cons .t0 .nil)) hO13 .k4 rfl rfl (by decide) fun a31 ha32 => .reg rfl <| .opp (P.asg .t0) rfl <| .nil <| .then <| .bg rfl hO13 .k0 <| .block ?_
    refine .seq <| .reg rfl <| .op (V.ld (v := u2) .t2 .k2 (.one isAgg68 rfl)) rfl <| .opp (P.mov .t1) rfl <| .op (V.ld (v := N s14.2.2.2) .g3 .k3 (.one isAgg3 rfl)) rfl <| .opp (P.cnvB8 (m := s14.2.2.2) .t0 runUnderlying3 runUnderlying5) rfl ?_
    obtain ⟨x36, hx37, hc18⟩ := bnd_eq hc18
    obtain ⟨i38, hi39, hx37⟩ := at_eq hx37
    have hi39_ : (s14.1).toNat = i38 := by rw [hi39]; rfl
    refine .ixql .k4 (map_get hx37) fun p33 q34 hq35 => .opp (P.ixi (i := i38) .t1 hi39 .t1 hq35 runUnderlying68 sizeOf5) rfl <| .opg (G.stx (off := q34) (k := 0) (cs' := [B8 (B8i s14.2.2.2)]) .t1 .t0 hq35 .k4 (map_get hx37) (.mk sizeOf5 rfl rfl rfl rfl)) rfl fun _ _ => .conseq .k0 (q := lst 5 1 u2 ((s14.2.1.set (s14.1).toNat (B8i s14.2.2.2 : UInt8)).map (fun x => [B8 x]))) (fun _ h_ => by rw [hi39_]; simpa [List.map_set] using h_) <| .nil <| .then <| .reg rfl <| .op (V.ld (v := N s14.2.2.2) .g1 .k4 (.one isAgg3 rfl)) rfl <| .opp (P.bin .t0 .k (.shr (by decide))) rfl <| .opg (G.str .t0 .t1 .k4 (.mk (cs' := [N (shrK .i64 s14.2.2.2 8)]) sizeOf3 rfl rfl rfl rfl)) rfl fun _ _ => .nil <| .inn ?_
    refine .rnorm rfl ⟨rfl, rfl, rfl⟩ ha32 hO13 .k2 rfl <| .inL rfl <| .opp (P.not .t0) rfl <| .nil <| .then <| .condF .t0 <| .skip <| .inn <| .then <| .reg rfl <| .opp (P.mov .g0) rfl <| .opp (P.bin .t0 .k .sub) rfl ?_
    refine .drop .k1 <| .opp (P.asg .t0) rfl <| .nil ?_
    cases hc18
    obtain ⟨m40, hm41, hn19⟩ := hn19
    exact .rdW ((IntKind.i64.wrap (s14.1 - 1), (s14.2.1.set (s14.1).toNat (B8i s14.2.2.2 : UInt8)), (s14.2.1.set (s14.1).toNat (B8i s14.2.2.2 : UInt8)), shrK .i64 s14.2.2.2 8)) () hm41 hn19 (.cons Mm.m0 (.cons Mm.m1 (.cons Mm.m2 .nil))) (.of (.cons .k3 (.cons .k3 (.cons .k1 (.cons .k1 (.cons .k0 (.cons .k0 .nil))))))) .nil
  · rw [if_neg (ne_true_of_eq_false c23)] at hc18
    refine .exit <| .thx ?_
    cases hc18
    refine .told (γ := Unit) h hn19 (fun (s14 : Int × (List UInt8) × (List UInt8) × Int) _ => [(3, N s14.1), (0, yv l11), (1, pt b7 0)]) (fun (s14 : Int × (List UInt8) × (List UInt8) × Int) _ => [blk b7 68 [u2], blk b4 68 [u2], blk b1 3 [N s14.2.2.2], lst 5 1 u2 (s14.2.1.map (fun x => [B8 x])), obj l11 (O9 .ready none), obj D10 (.deferred (some []))]) (fun (s14 : Int × (List UInt8) × (List UInt8) × Int) _ => []) () (.cons Mm.m0 (.cons Mm.m1 (.cons Mm.m2 .nil))) (.of (.cons .k0 (.cons .k0 (.cons .k0 (.cons .k0 (.cons .k0 (.cons .k0 .nil))))))) .nil (fun s14 _ h' => ?_)
    replace h := h'
    refine .thx <| .inb <| .rfinn ha12 hO13 .k4 rfl <| .inn <| .then <| .seq <| .reg rfl <| .op (V.ld (v := u2) .t0 .k1 (.one isAgg68 rfl)) rfl <| .opp (P.asg .t0) rfl <| .nil <| .then <| .ret ?_
    cases h
    exact .finm u2 .k4 (.r1 rfl (.tmp .g0)) trivial (Ls.of (.cons .k3 .nil)) .nil
attribute [irreducible] blob_Num
noncomputable def slices_Grow_byte_nil (a1 : Int) : Option ((List UInt8)) :=
  if (decide (a1 < 0)) = true then none else (Option.bind (if (decide ((IntKind.i64.wrap (a1 - 0)) > 0)) = true then (grd (0 ≤ (IntKind.i64.wrap (a1 - 0)) ∧ (IntKind.i64.wrap (a1 - 0)) * 1 ≤ 70368744177664) <| some ()) else (some ())) fun (y2 : Unit) => some ([] : List UInt8))
set_option maxRecDepth 20000 in
set_option maxHeartbeats 8000000 in
theorem S_slices_Grow_byte_nil (a1 : Int) (r : (List UInt8)) (h : slices_Grow_byte_nil a1 = some r) :
    SpecF Tryz.prog 198 [nilSl, N a1] [] [] (fun z : Value => True) (fun z => z) (fun z M => lst 5 1 z (r.map (fun x => [B8 x])) ::  M) (fun z M =>  M) := by
  refine .of func198 rfl ntmps198 rfl fun w0 D0 G0 => ?_
  unfold slices_Grow_byte_nil at h
  refine .seq <| .reg rfl <| .op0 (OpP.toV (P.asg .k)) rfl <| .nil <| .then <| .seq <| .seq <| .reg rfl <| .opp (P.mov .g1) rfl <| .opp (P.bin .t0 .k .lss) rfl <| .nil <| .then ?_
  refine .cond .t0 (fun c1 => ?_) (fun c1 => ?_)
  · rw [if_pos c1] at h
    refine .reg rfl ?_
    cases h
  · rw [if_neg (ne_true_of_eq_false c1)] at h
    refine .skip <| .then ?_
    obtain ⟨y2, hj4, h⟩ := bnd_eq h
    refine .cutx (γ := Value) (E1 := fun z3 => [(0, z3)]) (L1 := fun z3 => [lst 5 1 z3 []]) (R1 := fun z3 => []) ?_ (fun z3 => ?_)
    · clear h
      refine .seq <| .reg rfl <| .opp (P.mov .g1) rfl <| .opp (P.mov .g1) rfl <| .opp (P.capn .t0 runUnderlying68) rfl <| .opp (P.mov .g2) rfl <| .opp (P.lenn .t0 runUnderlying68) rfl <| .opp (P.bin (v := N 0) .t1 .t0 (.subc (by decide))) rfl <| .opp (P.bin .t1 .t0 .sub) rfl <| .drop .k2 <| .opp (P.asg .t0) rfl <| .nil ?_
      refine .then <| .seq <| .reg rfl <| .opp (P.mov .g0) rfl <| .opp (P.bin .t0 .k .gtr) rfl <| .nil <| .then <| .cond .t0 (fun c5 => ?_) (fun c5 => ?_)
      · rw [if_pos c5] at hj4
        refine .reg rfl <| .opp (P.mov .g1) rfl <| .opp (P.mov .g2) rfl <| .opp (P.capn .t0 runUnderlying68) rfl <| .opp (P.sln .t1 .t0 runUnderlying68 sizeOf5) rfl <| .opp (P.mov .t1) rfl ?_
        obtain ⟨hb7, hj4⟩ := grd_eq hj4
        refine .opg (G.appn (by_ := 1) (cs := [B8 0]) (m := IntKind.i64.wrap (a1 - 0)) .t1 .t0 runUnderlying68 runUnderlying3 sizeOf5 typeInfo5 rfl rfl zeroValue5 rfl rfl rfl hb7.1 hb7.2 rfl) rfl fun u6 _ => .conseq .k0 (q := lst 5 1 u6 ((List.replicate (IntKind.i64.wrap (a1 - 0)).toNat (0 : UInt8)).map (fun x => [B8 x]))) (fun _ hh => by simpa [List.map_replicate] using hh) <| .opp (P.mov .g1) rfl <| .opp (P.lenn .t0 runUnderlying68) rfl <| .opg (G.sll (m := 0) .t1 .t0 .k0 runUnderlying68 sizeOf5 (by decide) (Int.natCast_nonneg _) rfl) rfl fun u8 _ => .conseq .k0 (q := lst 5 1 u8 []) (fun _ hh => by simpa using hh) <| .drop .k1 <| .opp (P.asg .t0) rfl <| .nil ?_
        cases hj4
        exact .stj u8 (.cons Mm.m0 .nil) (.of (.cons .k0 .nil)) .nil
      · rw [if_neg (ne_true_of_eq_false c5)] at hj4
        refine .skip ?_
        cases hj4
        exact .lnil 5 1 <| .stj nilSl (.cons Mm.m1 .nil) (.of (.cons .k0 .nil)) .nil
    · clear hj4
      refine .seq <| .reg rfl <| .opp (P.mov .t0) rfl <| .opp (P.asg .t0) rfl <| .nil <| .then <| .ret ?_
      cases h
      exact .finw z3 (.r1 rfl (.tmp .g0)) trivial (Ls.of (.cons .k0 .nil)) .nil
attribute [irreducible] slices_Grow_byte_nil
noncomputable def slices_Concat_byte_n3 (a0a : List UInt8) (a0b : List UInt8) (a0c : List UInt8) : Option ((List UInt8)) :=
  if (decide ((IntKind.i64.wrap (0 + (a0a.length : Int))) < 0)) = true then none else (if (decide ((IntKind.i64.wrap ((IntKind.i64.wrap (0 + (a0a.length : Int))) + (a0b.length : Int))) < 0)) = true then none else (if (decide ((IntKind.i64.wrap ((IntKind.i64.wrap ((IntKind.i64.wrap (0 + (a0a.length : Int))) + (a0b.length : Int))) + (a0c.length : Int))) < 0)) = true then none else (Option.bind (slices_Grow_byte_nil (IntKind.i64.wrap ((IntKind.i64.wrap ((IntKind.i64.wrap (0 + (a0a.length : Int))) + (a0b.length : Int))) + (a0c.length : Int)))) fun r13 => grd ((r13.length + a0a.length) * 1 ≤ 140737488355328) <| grd (((r13 ++ a0a).length + a0b.length) * 1 ≤ 140737488355328) <| grd ((((r13 ++ a0a) ++ a0b).length + a0c.length) * 1 ≤ 140737488355328) <| some ((((r13 ++ a0a) ++ a0b) ++ a0c)))))
set_option maxRecDepth 20000 in
set_option maxHeartbeats 8000000 in
theorem S_slices_Concat_byte_n3 (v00 : Value) (z00a : Value) (a0a : List UInt8) (z00b : Value) (a0b : List UInt8) (z00c : Value) (a0c : List UInt8) (r : (List UInt8)) (h : slices_Concat_byte_n3 a0a a0b a0c = some r) :
    SpecF Tryz.prog 136 [v00] [] [rows 1 v00 [[z00a], [z00b], [z00c]], rows 1 z00a (a0a.map (fun x => [B8 x])), rows 1 z00b (a0b.map (fun x => [B8 x])), rows 1 z00c (a0c.map (fun x => [B8 x]))] (fun z : Value => True) (fun z => z) (fun z M => lst 5 1 z (r.map (fun x => [B8 x])) ::  M) (fun z M =>  M) := by
  refine .of func136 rfl ntmps136 rfl fun w0 D0 G0 => ?_
  unfold slices_Concat_byte_n3 at h
  refine .seq <| .reg rfl <| .op0 (OpP.toV (P.asg .k)) rfl <| .nil <| .then <| .seq <| .reg rfl <| .opp (P.asg .k) rfl <| .nil <| .then <| .seq <| .seq ?_
  refine .reg rfl <| .opp (P.mov .g1) rfl <| .op (V.lnr (n := 3) .g0 Mm.m0 rfl runUnderlying141) rfl <| .opp (P.mov .k) rfl <| .nil <| .then <| .block <| .rounds 4 <| .rd <| .seq <| .reg rfl <| .opp (P.bin (v := Bo true) .g0 .g1 (BinV.lss.boolc (by decide))) rfl ?_
  refine .nil <| .then <| .seq <| .condT .t0 <| .skip <| .then <| .seq <| .block <| .seq <| .reg rfl <| .ixq Mm.m0 (show [[z00a], [z00b], [z00c]][0]? = some [z00a] from rfl) fun p1 q2 hq3 => .opp (P.ixi (i := 0) .g0 rfl .g2 hq3 runUnderlying141 sizeOf68) rfl ?_
  refine .op (V.ldx0 (u := z00a) .t0 hq3 Mm.m0 (show [[z00a], [z00b], [z00c]][0]? = some [z00a] from rfl) (.one isAgg68 rfl)) rfl <| .opp (P.asg .t0) rfl <| .nil <| .then <| .seq <| .reg rfl <| .opp (P.mov .g4) rfl <| .opp (P.mov .t1) rfl <| .op (V.lnr (n := a0a.length) .t0 Mm.m1 map_len runUnderlying68) rfl <| .opp (P.bin .t1 .t0 .add) rfl <| .drop .k4 <| .opp (P.asg .t0) rfl ?_
  refine .nil <| .then <| .seq <| .reg rfl <| .opp (P.mov .g0) rfl <| .opp (P.bin .t0 .k .lss) rfl <| .nil <| .then <| .cond .t0 (fun c4 => ?_) (fun c4 => ?_)
  · rw [if_pos c4] at h
    refine .reg rfl ?_
    cases h
  · rw [if_neg (ne_true_of_eq_false c4)] at h
    refine .skip <| .inn <| .then <| .reg rfl <| .opp (P.bin (v := N 1) .g1 .k (.addc (by decide))) rfl <| .drop .k2 <| .opp (P.mov .t0) rfl <| .nil <| .then <| .rd <| .seq <| .reg rfl ?_
    refine .opp (P.bin (v := Bo true) .g0 .g2 (BinV.lss.boolc (by decide))) rfl <| .nil <| .then <| .seq <| .condT .t0 <| .skip <| .then <| .seq <| .block <| .seq <| .reg rfl <| .ixq Mm.m0 (show [[z00a], [z00b], [z00c]][1]? = some [z00b] from rfl) fun p5 q6 hq7 => ?_
    refine .opp (P.ixi (i := 1) .g0 rfl .g3 hq7 runUnderlying141 sizeOf68) rfl <| .op (V.ldx0 (u := z00b) .t0 hq7 Mm.m0 (show [[z00a], [z00b], [z00c]][1]? = some [z00b] from rfl) (.one isAgg68 rfl)) rfl <| .opp (P.asg .t0) rfl <| .nil <| .then <| .seq <| .reg rfl <| .opp (P.mov .g2) rfl <| .opp (P.mov .t1) rfl <| .op (V.lnr (n := a0b.length) .t0 Mm.m2 map_len runUnderlying68) rfl <| .opp (P.bin .t1 .t0 .add) rfl <| .drop .k2 ?_
    refine .opp (P.asg .t0) rfl <| .nil <| .then <| .seq <| .reg rfl <| .opp (P.mov .g0) rfl <| .opp (P.bin .t0 .k .lss) rfl <| .nil <| .then <| .cond .t0 (fun c8 => ?_) (fun c8 => ?_)
    · rw [if_pos c8] at h
      refine .reg rfl ?_
      cases h
    · rw [if_neg (ne_true_of_eq_false c8)] at h
      refine .skip <| .inn <| .then <| .reg rfl <| .opp (P.bin (v := N 2) .g1 .k (.addc (by decide))) rfl <| .drop .k2 <| .opp (P.mov .t0) rfl <| .nil <| .then <| .rd <| .seq <| .reg rfl ?_
      refine .opp (P.bin (v := Bo true) .g0 .g2 (BinV.lss.boolc (by decide))) rfl <| .nil <| .then <| .seq <| .condT .t0 <| .skip <| .then <| .seq <| .block <| .seq <| .reg rfl <| .ixq Mm.m0 (show [[z00a], [z00b], [z00c]][2]? = some [z00c] from rfl) fun p9 q10 hq11 => ?_
      refine .opp (P.ixi (i := 2) .g0 rfl .g3 hq11 runUnderlying141 sizeOf68) rfl <| .op (V.ldx0 (u := z00c) .t0 hq11 Mm.m0 (show [[z00a], [z00b], [z00c]][2]? = some [z00c] from rfl) (.one isAgg68 rfl)) rfl <| .opp (P.asg .t0) rfl <| .nil <| .then <| .seq <| .reg rfl <| .opp (P.mov .g2) rfl <| .opp (P.mov .t1) rfl <| .op (V.lnr (n := a0c.length) .t0 Mm.m3 map_len runUnderlying68) rfl <| .opp (P.bin .t1 .t0 .add) rfl <| .drop .k2 ?_
      refine .opp (P.asg .t0) rfl <| .nil <| .then <| .seq <| .reg rfl <| .opp (P.mov .g0) rfl <| .opp (P.bin .t0 .k .lss) rfl <| .nil <| .then <| .cond .t0 (fun c12 => ?_) (fun c12 => ?_)
      · rw [if_pos c12] at h
        refine .reg rfl ?_
        cases h
      · rw [if_neg (ne_true_of_eq_false c12)] at h
        refine .skip <| .inn <| .then <| .reg rfl <| .opp (P.bin (v := N 3) .g1 .k (.addc (by decide))) rfl <| .drop .k2 <| .opp (P.mov .t0) rfl <| .nil <| .then <| .rd <| .seq <| .reg rfl ?_
        refine .opp (P.bin (v := Bo false) .g0 .g2 (BinV.lss.boolc (by decide))) rfl <| .nil <| .then <| .seq <| .condF .t0 <| .exit <| .thx <| .thx <| .inb <| .then <| .seq <| .reg rfl ?_
        refine .opp (P.mov .t1) rfl ?_
        obtain ⟨r13, hr14, h⟩ := bnd_eq h
        refine .opg (G.call call198 (.cons .k (.cons .t0 .nil)) (S_slices_Grow_byte_nil (IntKind.i64.wrap ((IntKind.i64.wrap ((IntKind.i64.wrap (0 + (a0a.length : Int))) + (a0b.length : Int))) + (a0c.length : Int))) r13 hr14) .nil .nil (fun _ _ => rfl) (fun _ _ => rfl) rfl) rfl fun u15 _ => .opp (P.asg .t0) rfl <| .nil <| .then <| .seq <| .seq <| .reg rfl <| .opp (P.mov .t4) rfl <| .op (V.lnr (n := 3) .g0 Mm.m0 rfl runUnderlying141) rfl <| .opp (P.mov .k) rfl <| .nil <| .then ?_
        refine .block <| .rounds 4 <| .rd <| .seq <| .reg rfl <| .opp (P.bin (v := Bo true) .g0 .g1 (BinV.lss.boolc (by decide))) rfl <| .nil <| .then <| .seq <| .condT .t0 <| .skip <| .then ?_
        refine .seq <| .block <| .seq <| .reg rfl <| .ixq Mm.m0 (show [[z00a], [z00b], [z00c]][0]? = some [z00a] from rfl) fun p16 q17 hq18 => .opp (P.ixi (i := 0) .g0 rfl .g2 hq18 runUnderlying141 sizeOf68) rfl <| .op (V.ldx0 (u := z00a) .t0 hq18 Mm.m0 (show [[z00a], [z00b], [z00c]][0]? = some [z00a] from rfl) (.one isAgg68 rfl)) rfl <| .opp (P.asg .t0) rfl <| .nil <| .then <| .reg rfl <| .opp (P.mov .g4) rfl ?_
        refine .opp (P.mov .t1) rfl ?_
        obtain ⟨hb20, h⟩ := grd_eq h
        refine .opg (G.app (by_ := 1) .t1 .t0 .k0 (.inl Mm.m1) runUnderlying68 runUnderlying68 sizeOf5 typeInfo5 rfl rfl zeroValue5 rfl (one_map one_5 _) (by simpa using hb20) rfl) rfl fun u19 _ => .conseq .k0 (q := lst 5 1 u19 ((r13 ++ a0a).map (fun x => [B8 x]))) (fun _ hh => by simpa [List.map_append] using hh) <| .drop .k4 <| .opp (P.asg .t0) rfl <| .nil <| .inn <| .then <| .reg rfl <| .opp (P.bin (v := N 1) .g1 .k (.addc (by decide))) rfl <| .drop .k2 <| .opp (P.mov .t0) rfl <| .nil ?_
        refine .then <| .rd <| .seq <| .reg rfl <| .opp (P.bin (v := Bo true) .g0 .g2 (BinV.lss.boolc (by decide))) rfl <| .nil <| .then <| .seq <| .condT .t0 <| .skip <| .then <| .seq ?_
        refine .block <| .seq <| .reg rfl <| .ixq Mm.m0 (show [[z00a], [z00b], [z00c]][1]? = some [z00b] from rfl) fun p21 q22 hq23 => .opp (P.ixi (i := 1) .g0 rfl .g3 hq23 runUnderlying141 sizeOf68) rfl <| .op (V.ldx0 (u := z00b) .t0 hq23 Mm.m0 (show [[z00a], [z00b], [z00c]][1]? = some [z00b] from rfl) (.one isAgg68 rfl)) rfl <| .opp (P.asg .t0) rfl <| .nil <| .then <| .reg rfl <| .opp (P.mov .g2) rfl <| .opp (P.mov .t1) rfl ?_
        obtain ⟨hb25, h⟩ := grd_eq h
        refine .opg (G.app (by_ := 1) .t1 .t0 .k0 (.inl Mm.m2) runUnderlying68 runUnderlying68 sizeOf5 typeInfo5 rfl rfl zeroValue5 rfl (one_map one_5 _) (by simpa using hb25) rfl) rfl fun u24 _ => .conseq .k0 (q := lst 5 1 u24 (((r13 ++ a0a) ++ a0b).map (fun x => [B8 x]))) (fun _ hh => by simpa [List.map_append] using hh) <| .drop .k2 <| .opp (P.asg .t0) rfl <| .nil <| .inn <| .then <| .reg rfl <| .opp (P.bin (v := N 2) .g1 .k (.addc (by decide))) rfl <| .drop .k2 <| .opp (P.mov .t0) rfl <| .nil ?_
        refine .then <| .rd <| .seq <| .reg rfl <| .opp (P.bin (v := Bo true) .g0 .g2 (BinV.lss.boolc (by decide))) rfl <| .nil <| .then <| .seq <| .condT .t0 <| .skip <| .then <| .seq ?_
        refine .block <| .seq <| .reg rfl <| .ixq Mm.m0 (show [[z00a], [z00b], [z00c]][2]? = some [z00c] from rfl) fun p26 q27 hq28 => .opp (P.ixi (i := 2) .g0 rfl .g3 hq28 runUnderlying141 sizeOf68) rfl <| .op (V.ldx0 (u := z00c) .t0 hq28 Mm.m0 (show [[z00a], [z00b], [z00c]][2]? = some [z00c] from rfl) (.one isAgg68 rfl)) rfl <| .opp (P.asg .t0) rfl <| .nil <| .then <| .reg rfl <| .opp (P.mov .g2) rfl <| .opp (P.mov .t1) rfl ?_
        obtain ⟨hb30, h⟩ := grd_eq h
        refine .opg (G.app (by_ := 1) .t1 .t0 .k0 (.inl Mm.m3) runUnderlying68 runUnderlying68 sizeOf5 typeInfo5 rfl rfl zeroValue5 rfl (one_map one_5 _) (by simpa using hb30) rfl) rfl fun u29 _ => .conseq .k0 (q := lst 5 1 u29 ((((r13 ++ a0a) ++ a0b) ++ a0c).map (fun x => [B8 x]))) (fun _ hh => by simpa [List.map_append] using hh) <| .drop .k2 <| .opp (P.asg .t0) rfl <| .nil <| .inn <| .then <| .reg rfl <| .opp (P.bin (v := N 3) .g1 .k (.addc (by decide))) rfl <| .drop .k2 <| .opp (P.mov .t0) rfl <| .nil ?_
        refine .then <| .rd <| .seq <| .reg rfl <| .opp (P.bin (v := Bo false) .g0 .g2 (BinV.lss.boolc (by decide))) rfl <| .nil <| .then <| .seq <| .condF .t0 <| .exit <| .thx <| .thx ?_
        refine .inb <| .then <| .seq <| .reg rfl <| .opp (P.mov .t1) rfl <| .opp (P.asg .t0) rfl <| .nil <| .then <| .ret ?_
        cases h
        exact .finw u29 (.r1 rfl (.tmp .g0)) trivial (Ls.of (.cons .k0 .nil)) .nil
attribute [irreducible] slices_Concat_byte_n3
noncomputable def blob_Cat_n3 (a0a : List UInt8) (a0b : List UInt8) (a0c : List UInt8) : Option ((List UInt8)) :=
  Option.bind (slices_Concat_byte_n3 a0a a0b a0c) fun r1 => some r1
set_option maxRecDepth 20000 in
set_option maxHeartbeats 8000000 in
theorem S_blob_Cat_n3 (v00 : Value) (z00a : Value) (a0a : List UInt8) (z00b : Value) (a0b : List UInt8) (z00c : Value) (a0c : List UInt8) (r : (List UInt8)) (h : blob_Cat_n3 a0a a0b a0c = some r) :
    SpecF Tryz.prog 91 [v00] [] [rows 1 v00 [[z00a], [z00b], [z00c]], rows 1 z00a (a0a.map (fun x => [B8 x])), rows 1 z00b (a0b.map (fun x => [B8 x])), rows 1 z00c (a0c.map (fun x => [B8 x]))] (fun z : Value => True) (fun z => z) (fun z M => lst 5 1 z (r.map (fun x => [B8 x])) ::  M) (fun z M =>  M) := by
  refine .of func91 rfl ntmps91 rfl fun w0 D0 G0 => ?_
  unfold blob_Cat_n3 at h
  refine .seq <| .reg rfl <| .op0 (OpP.toV (P.asg .k)) rfl <| .nil <| .then <| .seq <| .reg rfl <| .opp (P.mov .t0) rfl ?_
  obtain ⟨r1, hr2, h⟩ := bnd_eq h
  refine .opg (G.call call136 (.cons .t0 .nil) (S_slices_Concat_byte_n3 v00 z00a a0a z00b a0b z00c a0c r1 hr2) .nil (.cons Mm.m0 (.cons Mm.m1 (.cons Mm.m2 (.cons Mm.m3 .nil)))) (fun _ _ => rfl) (fun _ _ => rfl) rfl) rfl fun u3 _ => .opp (P.asg .t0) rfl <| .nil <| .then <| .ret ?_
  cases h
  exact .finw u3 (.r1 rfl (.tmp .g0)) trivial (Ls.of (.cons .k0 .nil)) .nil
attribute [irreducible] blob_Cat_n3
noncomputable def script_step (a0 : api_Step) : Option ((List UInt8)) :=
  Option.bind (blob_Num (IntKind.i64.wrap (a0.A + 32768)) 2) fun r3 => grd ((([B8i a0.Kind] : List UInt8).length + r3.length) * 1 ≤ 140737488355328) <| Option.bind (blob_Num (IntKind.i64.wrap (a0.B + 32768)) 2) fun r8 => grd (((([B8i a0.Kind] : List UInt8) ++ r3).length + r8.length) * 1 ≤ 140737488355328) <| Option.bind (blob_Num (IntKind.i64.wrap (a0.C + 32768)) 2) fun r13 => grd ((((([B8i a0.Kind] : List UInt8) ++ r3) ++ r8).length + r13.length) * 1 ≤ 140737488355328) <| Option.bind (blob_Num (a0.Data.length : Int) 2) fun r18 => Option.bind (blob_Cat_n3 (((([B8i a0.Kind] : List UInt8) ++ r3) ++ r8) ++ r13) r18 a0.Data) fun r25 => some r25
set_option maxRecDepth 20000 in
set_option maxHeartbeats 8000000 in
theorem S_script_step (a0 : api_Step) (z00a : Value) (r : (List UInt8)) (h : script_step a0 = some r) :
    SpecF Tryz.prog 60 [Ag (api_Step.cs a0 z00a)] [] [rows 1 z00a (a0.Data.map (fun x => [B8 x]))] (fun z : Value => True) (fun z => z) (fun z M => lst 5 1 z (r.map (fun x => [B8 x])) ::  M) (fun z M =>  M) := by
  refine .of func60 rfl ntmps60 rfl fun w0 D0 G0 => ?_
  unfold script_step at h
  refine .seq <| .reg rfl <| .opx (X.box (cs := (api_Step.cs a0 z00a)) .t0 rfl) rfl fun b1 => .op0 (OpP.toV (P.asg .k)) rfl <| .nil <| .then <| .seq <| .reg rfl <| .opp (P.fa .g0 fa_70_0 rfl) rfl <| .op (V.ld (v := N a0.Kind) .t0 .k0 (.one isAgg3 rfl)) rfl <| .opp (P.cnvB8 (m := a0.Kind) .t0 runUnderlying3 runUnderlying5) rfl <| .opg (G.bsl (cs := [B8 (B8i a0.Kind)]) .t0 runUnderlying68 sizeOf5 zeroValue5 rfl rfl rfl rfl rfl) rfl fun u2 _ => ?_
  refine .opp (P.asg .t0) rfl <| .nil <| .then <| .seq <| .seq <| .reg rfl <| .opp (P.fa .g1 fa_70_1 rfl) rfl <| .op (V.ld (v := N a0.A) .t0 .k1 (.one isAgg3 rfl)) rfl <| .opp (P.fa .g2 fa_70_2 rfl) rfl <| .op (V.ld (v := N a0.B) .t0 .k1 (.one isAgg3 rfl)) rfl <| .opp (P.fa .g3 fa_70_3 rfl) rfl <| .op (V.ld (v := N a0.C) .t0 .k1 (.one isAgg3 rfl)) rfl ?_
  refine .opp (P.bld (v := Ag (A3_i64.cs ⟨a0.A, a0.B, a0.C⟩)) (.cons .t2 (.cons .t1 (.cons .t0 .nil))) (bld_runA zeroValue189 runUnderlying189 sizeOf3 (by kernel_rfl))) rfl <| .opp (P.mov .k) rfl <| .nil <| .then <| .block <| .rounds 4 <| .rd <| .seq <| .reg rfl <| .opp (P.bin (v := Bo true) .g0 .k (BinV.lss.boolc (by decide))) rfl <| .nil <| .then ?_
  refine .seq <| .condT .t0 <| .skip <| .then <| .seq <| .block <| .seq <| .reg rfl <| .opp (P.idx (i := 0) (v := N a0.A) .g1 .g0 rfl runUnderlying189 sizeOf3 (by decide) (.one isAgg3 rfl)) rfl <| .opp (P.asg .t0) rfl <| .nil <| .then ?_
  refine .reg rfl <| .opp (P.mov .g3) rfl <| .opp (P.mov .t1) rfl <| .opp (P.bin .t0 .k .add) rfl ?_
  obtain ⟨r3, hr4, h⟩ := bnd_eq h
  refine .opg (G.call call92 (.cons .t0 (.cons .k .nil)) (S_blob_Num (IntKind.i64.wrap (a0.A + 32768)) 2 r3 hr4) .nil .nil (fun _ _ => rfl) (fun _ _ => rfl) rfl) rfl fun u5 _ => ?_
  obtain ⟨hb7, h⟩ := grd_eq h
  refine .opg (G.app (by_ := 1) .t1 .t0 .k1 (.inr (.inr ⟨_, Mm.m0⟩)) runUnderlying68 runUnderlying68 sizeOf5 typeInfo5 rfl rfl zeroValue5 rfl (one_map one_5 _) (by simpa using hb7) rfl) rfl fun u6 _ => .conseq .k0 (q := lst 5 1 u6 ((([B8i a0.Kind] : List UInt8) ++ r3).map (fun x => [B8 x]))) (fun _ hh => by simpa [List.map_append] using hh) <| .drop .k3 <| .opp (P.asg .t0) rfl <| .nil <| .inn <| .then <| .reg rfl <| .opp (P.bin (v := N 1) .g1 .k (.addc (by decide))) rfl <| .drop .k2 <| .opp (P.mov .t0) rfl <| .nil ?_
  refine .then <| .rd <| .seq <| .reg rfl <| .opp (P.bin (v := Bo true) .g0 .k (BinV.lss.boolc (by decide))) rfl <| .nil <| .then <| .seq <| .condT .t0 <| .skip <| .then <| .seq ?_
  refine .block <| .seq <| .reg rfl <| .opp (P.idx (i := 1) (v := N a0.B) .g2 .g0 rfl runUnderlying189 sizeOf3 (by decide) (.one isAgg3 rfl)) rfl <| .opp (P.asg .t0) rfl <| .nil <| .then <| .reg rfl <| .opp (P.mov .g2) rfl <| .opp (P.mov .t1) rfl <| .opp (P.bin .t0 .k .add) rfl ?_
  obtain ⟨r8, hr9, h⟩ := bnd_eq h
  refine .opg (G.call call92 (.cons .t0 (.cons .k .nil)) (S_blob_Num (IntKind.i64.wrap (a0.B + 32768)) 2 r8 hr9) .nil .nil (fun _ _ => rfl) (fun _ _ => rfl) rfl) rfl fun u10 _ => ?_
  obtain ⟨hb12, h⟩ := grd_eq h
  refine .opg (G.app (by_ := 1) .t1 .t0 .k1 (.inr (.inr ⟨_, Mm.m0⟩)) runUnderlying68 runUnderlying68 sizeOf5 typeInfo5 rfl rfl zeroValue5 rfl (one_map one_5 _) (by simpa using hb12) rfl) rfl fun u11 _ => .conseq .k0 (q := lst 5 1 u11 (((([B8i a0.Kind] : List UInt8) ++ r3) ++ r8).map (fun x => [B8 x]))) (fun _ hh => by simpa [List.map_append] using hh) <| .drop .k2 <| .opp (P.asg .t0) rfl <| .nil <| .inn <| .then <| .reg rfl <| .opp (P.bin (v := N 2) .g1 .k (.addc (by decide))) rfl <| .drop .k2 <| .opp (P.mov .t0) rfl <| .nil ?_
  refine .then <| .rd <| .seq <| .reg rfl <| .opp (P.bin (v := Bo true) .g0 .k (BinV.lss.boolc (by decide))) rfl <| .nil <| .then <| .seq <| .condT .t0 <| .skip <| .then <| .seq ?_
  refine .block <| .seq <| .reg rfl <| .opp (P.idx (i := 2) (v := N a0.C) .g2 .g0 rfl runUnderlying189 sizeOf3 (by decide) (.one isAgg3 rfl)) rfl <| .opp (P.asg .t0) rfl <| .nil <| .then <| .reg rfl <| .opp (P.mov .g2) rfl <| .opp (P.mov .t1) rfl <| .opp (P.bin .t0 .k .add) rfl ?_
  obtain ⟨r13, hr14, h⟩ := bnd_eq h
  refine .opg (G.call call92 (.cons .t0 (.cons .k .nil)) (S_blob_Num (IntKind.i64.wrap (a0.C + 32768)) 2 r13 hr14) .nil .nil (fun _ _ => rfl) (fun _ _ => rfl) rfl) rfl fun u15 _ => ?_
  obtain ⟨hb17, h⟩ := grd_eq h
  refine .opg (G.app (by_ := 1) .t1 .t0 .k1 (.inr (.inr ⟨_, Mm.m0⟩)) runUnderlying68 runUnderlying68 sizeOf5 typeInfo5 rfl rfl zeroValue5 rfl (one_map one_5 _) (by simpa using hb17) rfl) rfl fun u16 _ => .conseq .k0 (q := lst 5 1 u16 ((((([B8i a0.Kind] : List UInt8) ++ r3) ++ r8) ++ r13).map (fun x => [B8 x]))) (fun _ hh => by simpa [List.map_append] using hh) <| .drop .k2 <| .opp (P.asg .t0) rfl <| .nil <| .inn <| .then <| .reg rfl <| .opp (P.bin (v := N 3) .g1 .k (.addc (by decide))) rfl <| .drop .k2 <| .opp (P.mov .t0) rfl <| .nil ?_
  refine .then <| .rd <| .seq <| .reg rfl <| .opp (P.bin (v := Bo false) .g0 .k (BinV.lss.boolc (by decide))) rfl <| .nil <| .then <| .seq <| .condF .t0 <| .exit <| .thx <| .thx ?_
  refine .inb <| .then <| .seq <| .drawl [lst 5 1 u15 (r13.map (fun x => [B8 x])), lst 5 1 u10 (r8.map (fun x => [B8 x])), lst 5 1 u5 (r3.map (fun x => [B8 x])), blk b1 70 (api_Step.cs a0 z00a)] [rows 1 z00a (a0.Data.map (fun x => [B8 x]))] (Ls.of (.cons .k1 (.cons .k1 (.cons .k1 (.cons .k1 .nil))))) (Rs.cons Mm.m0 Rs.nil) 10 (.on 0 .pu (.on 1 .pu (.on 5 .pu (.on 2 .ld (.on 3 .ld (.on 6 .ld (.on 4 .go (.on 7 .go (.on 8 .go (.on 9 .go .nl)))))))))) follows_mixed (.thn .body) (by kernel_rfl) <| .dpu rfl (.n rfl) (P.mov .t1) rfl rfl <| .dpu rfl (.n rfl) (P.fa .g3 fa_70_4 rfl) rfl rfl <| .dpu rfl (.n rfl) (P.fa .t4 fa_70_4 rfl) rfl rfl <| .dld rfl (.n rfl) (V.ld (v := z00a) .t1 .k3 (.one isAgg68 rfl)) (fun _ h => (h.imp (Ls.of (.cons .k1 (.cons .k1 (.cons .k1 (.cons .k1 .nil)))))).ro (Rs.cons Mm.m0 Rs.nil)) rfl rfl <| .dld rfl (.n rfl) (V.lnr (n := a0.Data.length) .t0 Mm.m0 map_len runUnderlying68) (fun _ h => (h.imp (Ls.of (.cons .k1 (.cons .k1 (.cons .k1 (.cons .k1 .nil)))))).ro (Rs.cons Mm.m0 Rs.nil)) rfl rfl <| .dld rfl (.n rfl) (V.ld (v := z00a) .t1 .k3 (.one isAgg68 rfl)) (fun _ h => (h.imp (Ls.of (.cons .k1 (.cons .k1 (.cons .k1 (.cons .k1 .nil)))))).ro (Rs.cons Mm.m0 Rs.nil)) rfl rfl ?_
  obtain ⟨r18, hr19, h⟩ := bnd_eq h
  refine .dgo rfl (.n rfl) (G.call call92 (.cons .t1 (.cons .k .nil)) (S_blob_Num (a0.Data.length : Int) 2 r18 hr19) .nil .nil (fun _ _ => rfl) (fun _ _ => rfl) rfl) (.inr fun _ _ _ h => (h.imp (Ls.of (.cons .k2 (.cons .k2 (.cons .k2 (.cons .k2 .nil)))))).ro (Rs.cons Mm.m0 Rs.nil)) fun u20 _ => .onel .k1 fun ho22 => .onel .k0 fun ho23 => .oner Mm.m0 fun ho24 => .dgo rfl (.n rfl) (G.bsln (xs := [[u16], [u20], [z00a]]) (.cons .t2 (.cons .t0 (.cons .t0 .nil))) runUnderlying141 sizeOf68 zeroValue68 (fill3 ho22 ho23 ho24) rfl rfl rfl rfl rfl) (.inr fun _ _ _ h => (h.imp (Ls.of (.cons .k3 (.cons .k3 (.cons .k3 (.cons .k3 .nil)))))).ro (Rs.cons Mm.m0 Rs.nil)) fun u21 _ => .frz .k0 <| .frz .k1 <| .frz .k0 ?_
  obtain ⟨r25, hr26, h⟩ := bnd_eq h
  refine .dgo rfl (.n rfl) (G.call call91 (.cons .t0 .nil) (S_blob_Cat_n3 u21 u16 (((([B8i a0.Kind] : List UInt8) ++ r3) ++ r8) ++ r13) u20 r18 z00a a0.Data r25 hr26) .nil (.cons Mm.m2 (.cons Mm.m1 (.cons Mm.m0 (.cons Mm.m3 .nil)))) (fun _ _ => rfl) (fun _ _ => rfl) rfl) (.inr fun _ _ _ h => (h.imp (Ls.of (.cons .k1 (.cons .k1 (.cons .k1 (.cons .k1 .nil)))))).ro (Rs.cons Mm.m3 Rs.nil)) fun u27 _ => .dgo rfl (.n rfl) (OpV.g (OpP.toV (P.asg .t0)) rfl) (.inr fun _ _ _ h => (h.imp (Ls.of (.cons .k1 (.cons .k1 (.cons .k1 (.cons .k1 .nil)))))).ro (Rs.cons Mm.m3 Rs.nil)) fun _ _ => .dnil <| .then <| .ret ?_
  cases h
  exact .finw u27 (.r1 rfl (.tmp .g0)) trivial (Ls.of (.cons .k0 .nil)) .nil
attribute [irreducible] script_step
noncomputable def script_Put (a0 : List api_Step) : Option ((List UInt8) × Int) :=
  if (decide ((a0.length : Int) > 512)) = true then (some ((([] : List UInt8), 3))) else (Option.bind (loopR (fun (i5 : Nat) (e8 : api_Step) (s6 : Unit) => Option.bind (script_odd e8) fun r26 => if r26 = true then (Option.map Ct.rt (some ((([] : List UInt8), 4)))) else (some (.nx ()))) 0 a0 ()) fun o9 => Lo.on o9 fun (s6 : Unit) => Option.bind (loopR (fun (i33 : Nat) (e36 : api_Step) (s34 : (List UInt8)) => if (decide ((e36.Data.length : Int) > 1024)) = true then (Option.map Ct.rt (some ((([] : List UInt8), 5)))) else (Option.bind (script_step e36) fun r57 => grd ((s34.length + r57.length) * 1 ≤ 140737488355328) <| if (decide (((s34 ++ r57).length : Int) > 8192)) = true then (Option.map Ct.rt (some ((([] : List UInt8), 5)))) else (some (.nx (s34 ++ r57))))) 0 a0 ([])) fun o37 => Lo.on o37 fun (s34 : (List UInt8)) => some (s34, 0))
set_option maxRecDepth 20000 in
set_option maxHeartbeats 8000000 in
theorem S_script_Put (v00 : Value) (a0 : List api_Step) (zl00 : List Value) (r : (List UInt8) × Int) (h : script_Put a0 = some r) :
    SpecF Tryz.prog 28 [v00] [] [rows 5 v00 (List.zipWith api_Step.cs a0 zl00), gz api_Step.g a0 zl00] (fun z : Value => True) (fun z => Tu [z, N r.2]) (fun z M => lst 5 1 z (r.1.map (fun x => [B8 x])) ::  M) (fun z M =>  M) := by
  refine .of func28 rfl ntmps28 rfl fun w0 D0 G0 => ?_
  unfold script_Put at h
  refine .seq <| .reg rfl <| .op0 (OpP.toV (P.asg .k)) rfl <| .op0 (OpP.toV (P.asg .k)) rfl <| .nil <| .then <| .seq <| .reg rfl <| .opp (P.asg .k) rfl <| .nil <| .then <| .seq ?_
  refine .seq <| .reg rfl <| .opp (P.mov .g1) rfl <| .gzl Mm.m1 fun hz1 => .op (V.lnr (n := a0.length) .t0 Mm.m0 (zip_len hz1) runUnderlying24) rfl <| .opp (P.bin .t0 .k .gtr) rfl <| .nil <| .then <| .cond .t0 (fun c2 => ?_) (fun c2 => ?_)
  · rw [if_pos c2] at h
    refine .seq <| .reg rfl <| .opp (P.asg .k) rfl <| .opp (P.asg .k) rfl <| .nil <| .then <| .ret <| .thr ?_
    cases h
    exact .lnil 5 1 <| .finw nilSl (.r2 rfl (.tmp .g1) (.tmp .g0)) trivial (Ls.of (.cons .k0 .nil)) .nil
  · rw [if_neg (ne_true_of_eq_false c2)] at h
    refine .skip <| .then <| .seq <| .seq <| .reg rfl <| .opp (P.mov .g1) rfl <| .gzl Mm.m1 fun hz3 => .op (V.lnr (n := a0.length) .g0 Mm.m0 (zip_len hz3) runUnderlying24) rfl <| .opp (P.mov .k) rfl <| .nil <| .then <| .block ?_
    refine .lnil 5 1 ?_
    obtain ⟨o9, ho10, h⟩ := bnd_eq h
    refine .gzl Mm.m1 fun hz19 => .lenq Mm.m0 fun hl16 => ?_
    rw [zip_len hz19] at hl16
    refine .loopR (γ := Unit) (fun i5 (s6 : Unit) z7 => [(14, N (i5 : Int)), (13, N (a0.length : Int)), (12, v00), (4, nilSl), (0, v00)]) (fun (s6 : Unit) z7 => []) (fun (s6 : Unit) z7 => [gz api_Step.g a0 zl00, rows 5 v00 (List.zipWith api_Step.cs a0 zl00)]) () ho10 (.cons Mm.m0 (.cons Mm.m1 (.cons Mm.m2 (.cons Mm.m3 (.cons Mm.m4 .nil))))) (.of .nil) (.cons Mm.m1 (.cons Mm.m0 .nil)) (fun i5 s6 z7 hi17 hr13 => ?_)
    refine .seq <| .reg rfl <| .opp (P.bin (v := Bo (decide ((i5 : Int) < (a0.length : Nat)))) .g0 .g1 .lss) rfl <| .nil <| .then <| .seq <| .cond .t0 (fun c18 => ?_) (fun c18 => ?_)
    · obtain ⟨e8, hx15⟩ := get_of c18
      obtain ⟨ct14, hc11, hn12⟩ := loopR_at hx15 hr13
      refine .gzx (D := api_Step.cs) (q := fun z_ => rows 1 z_ (e8.Data.map (fun x => [B8 x]))) Mm.m0 hx15 (fun _ => rfl) fun u4 _ hx20 => .skip <| .then <| .seq <| .block <| .seq <| .reg rfl <| .ixq Mm.m2 hx20 fun p21 q22 hq23 => .opp (P.ixi (i := i5) .g0 rfl .g2 hq23 runUnderlying24 sizeOf70) rfl <| .op (V.ldx0 (u := Ag (api_Step.cs e8 u4)) .t0 hq23 Mm.m2 hx20 (.agg isAgg70 sizeOf70 rfl rfl)) rfl <| .opx (X.alc (cs := (api_Step.cs ⟨0, 0, 0, 0, []⟩ nilSl)) zeroValue70 rfl) rfl fun b24 => .oner Mm.m0 fun ho25 => ?_
      refine .opg (G.str .t1 .g0 .k0 (.mk (cs' := (api_Step.cs e8 u4)) sizeOf70 rfl (onez_70 _ ho25) rfl rfl)) rfl fun _ _ => .nil <| .then <| .seq <| .reg rfl <| .op (V.ld (v := Ag (api_Step.cs e8 u4)) .t0 .k0 (.agg isAgg70 sizeOf70 rfl rfl)) rfl ?_
      obtain ⟨r26, hr27, hc11⟩ := bnd_eq hc11
      refine .opg (G.call call59 (.cons .t0 .nil) (S_script_odd e8 u4 r26 hr27) .nil (.cons Mm.m0 .nil) (fun _ _ => rfl) (fun _ _ => rfl) rfl) rfl fun _ _ => .nil <| .then <| .cond .t0 (fun c28 => ?_) (fun c28 => ?_)
      · rw [if_pos c28] at hc11
        refine .seq <| .reg rfl <| .opp (P.asg .k) rfl <| .opp (P.asg .k) rfl <| .nil <| .then <| .ret <| .inr <| .thr ?_
        obtain ⟨x29, hx30, rfl⟩ := map_rt hc11
        obtain rfl := hn12
        obtain rfl := rt_on h
        refine .thr <| .inr <| .thr ?_
        cases hx30
        exact .lnil 5 1 <| .finw nilSl (.r2 rfl (.tmp .g1) (.tmp .g0)) trivial (Ls.of (.cons .k0 .nil)) .nil
      · rw [if_neg (ne_true_of_eq_false c28)] at hc11
        refine .skip <| .inn <| .then <| .reg rfl <| .opp (P.bin .g0 .k (.addc (inc_ok (lt_of_get hx15) hl16))) rfl <| .drop .k1 <| .opp (P.mov .t0) rfl <| .nil <| .lnil 5 1 ?_
        cases hc11
        exact .rdR () () hn12 (lt_of_get hx15) (.cons Mm.m0 (.cons Mm.m1 (.cons Mm.m2 (.cons Mm.m3 (.cons Mm.m4 .nil))))) (.of .nil) (.cons Mm.m1 (.cons Mm.m2 .nil))
    · obtain rfl := loopR_end (le_of_not c18) hr13
      have h := dn_on h
      refine .exit <| .thx <| .thx <| .inb <| .then <| .seq <| .seq <| .reg rfl <| .opp (P.mov .t4) rfl <| .gzl Mm.m0 fun hz31 => .op (V.lnr (n := a0.length) .g0 Mm.m1 (zip_len hz31) runUnderlying24) rfl <| .opp (P.mov .k) rfl ?_
      refine .nil <| .then <| .block <| .lnil 5 1 ?_
      obtain ⟨o37, ho38, h⟩ := bnd_eq h
      refine .gzl Mm.m0 fun hz47 => .lenq Mm.m1 fun hl44 => ?_
      rw [zip_len hz47] at hl44
      refine .loopR (γ := Value) (fun i33 (s34 : (List UInt8)) z35 => [(23, N (i33 : Int)), (22, N (a0.length : Int)), (21, v00), (4, z35)]) (fun (s34 : (List UInt8)) z35 => [lst 5 1 z35 (s34.map (fun x => [B8 x]))]) (fun (s34 : (List UInt8)) z35 => [gz api_Step.g a0 zl00, rows 5 v00 (List.zipWith api_Step.cs a0 zl00)]) nilSl ho38 (.cons Mm.m0 (.cons Mm.m1 (.cons Mm.m2 (.cons Mm.m6 .nil)))) (.of (.cons .k0 .nil)) (.cons Mm.m0 (.cons Mm.m1 .nil)) (fun i33 s34 z35 hi45 hr41 => ?_)
      refine .seq <| .reg rfl <| .opp (P.bin (v := Bo (decide ((i33 : Int) < (a0.length : Nat)))) .g0 .g1 .lss) rfl <| .nil <| .then <| .seq <| .cond .t0 (fun c46 => ?_) (fun c46 => ?_)
      · obtain ⟨e36, hx43⟩ := get_of c46
        obtain ⟨ct42, hc39, hn40⟩ := loopR_at hx43 hr41
        refine .gzx (D := api_Step.cs) (q := fun z_ => rows 1 z_ (e36.Data.map (fun x => [B8 x]))) Mm.m0 hx43 (fun _ => rfl) fun u32 _ hx48 => .skip <| .then <| .seq <| .block <| .seq <| .reg rfl <| .ixq Mm.m2 hx48 fun p49 q50 hq51 => .opp (P.ixi (i := i33) .g0 rfl .g2 hq51 runUnderlying24 sizeOf70) rfl <| .op (V.ldx0 (u := Ag (api_Step.cs e36 u32)) .t0 hq51 Mm.m2 hx48 (.agg isAgg70 sizeOf70 rfl rfl)) rfl <| .opx (X.alc (cs := (api_Step.cs ⟨0, 0, 0, 0, []⟩ nilSl)) zeroValue70 rfl) rfl fun b52 => .oner Mm.m0 fun ho53 => ?_
        refine .opg (G.str .t1 .g0 .k0 (.mk (cs' := (api_Step.cs e36 u32)) sizeOf70 rfl (onez_70 _ ho53) rfl rfl)) rfl fun _ _ => .nil <| .then <| .seq <| .seq <| .reg rfl <| .opp (P.fa .g0 fa_70_4 rfl) rfl <| .op (V.ld (v := u32) .t0 .k0 (.one isAgg68 rfl)) rfl <| .op (V.lnr (n := e36.Data.length) .t0 Mm.m0 map_len runUnderlying68) rfl <| .opp (P.bin .t0 .k .gtr) rfl <| .nil <| .then ?_
        refine .cond .t0 (fun c54 => ?_) (fun c54 => ?_)
        · rw [if_pos c54] at hc39
          refine .seq <| .reg rfl <| .opp (P.asg .k) rfl <| .opp (P.asg .k) rfl <| .nil <| .then <| .ret <| .thr <| .inr <| .thr ?_
          obtain ⟨x55, hx56, rfl⟩ := map_rt hc39
          obtain rfl := hn40
          obtain rfl := rt_on h
          refine .thr <| .inr <| .thr ?_
          cases hx56
          exact .lnil 5 1 <| .finw nilSl (.r2 rfl (.tmp .g1) (.tmp .g0)) trivial (Ls.of (.cons .k0 .nil)) .nil
        · rw [if_neg (ne_true_of_eq_false c54)] at hc39
          refine .skip <| .then <| .seq <| .reg rfl <| .opp (P.mov .g4) rfl <| .op (V.ld (v := Ag (api_Step.cs e36 u32)) .t1 .k0 (.agg isAgg70 sizeOf70 rfl rfl)) rfl ?_
          obtain ⟨r57, hr58, hc39⟩ := bnd_eq hc39
          refine .opg (G.call call60 (.cons .t0 .nil) (S_script_step e36 u32 r57 hr58) .nil (.cons Mm.m0 .nil) (fun _ _ => rfl) (fun _ _ => rfl) rfl) rfl fun u59 _ => ?_
          obtain ⟨hb61, hc39⟩ := grd_eq hc39
          refine .opg (G.app (by_ := 1) .t1 .t0 .k2 (.inr (.inr ⟨_, Mm.m0⟩)) runUnderlying68 runUnderlying68 sizeOf5 typeInfo5 rfl rfl zeroValue5 rfl (one_map one_5 _) (by simpa using hb61) rfl) rfl fun u60 _ => .conseq .k0 (q := lst 5 1 u60 ((s34 ++ r57).map (fun x => [B8 x]))) (fun _ hh => by simpa [List.map_append] using hh) <| .drop .k4 <| .opp (P.asg .t0) rfl <| .nil <| .then <| .seq <| .reg rfl <| .opp (P.mov .g0) rfl <| .op (V.lnl (n := (s34 ++ r57).length) .t0 .k0 map_len runUnderlying68) rfl <| .opp (P.bin .t0 .k .gtr) rfl <| .nil ?_
          refine .then <| .cond .t0 (fun c62 => ?_) (fun c62 => ?_)
          · rw [if_pos c62] at hc39
            refine .seq <| .reg rfl <| .opp (P.asg .k) rfl <| .opp (P.asg .k) rfl <| .nil <| .then <| .ret <| .inr <| .thr ?_
            obtain ⟨x63, hx64, rfl⟩ := map_rt hc39
            obtain rfl := hn40
            obtain rfl := rt_on h
            refine .thr <| .inr <| .thr ?_
            cases hx64
            exact .lnil 5 1 <| .finw nilSl (.r2 rfl (.tmp .g1) (.tmp .g0)) trivial (Ls.of (.cons .k0 .nil)) .nil
          · rw [if_neg (ne_true_of_eq_false c62)] at hc39
            refine .skip <| .inn <| .then <| .reg rfl <| .opp (P.bin .g1 .k (.addc (inc_ok (lt_of_get hx43) hl44))) rfl <| .drop .k2 <| .opp (P.mov .t0) rfl <| .nil ?_
            cases hc39
            exact .rdR (s34 ++ r57) u60 hn40 (lt_of_get hx43) (.cons Mm.m0 (.cons Mm.m2 (.cons Mm.m3 (.cons Mm.m1 .nil)))) (.of (.cons .k0 .nil)) (.cons Mm.m1 (.cons Mm.m2 .nil))
      · obtain rfl := loopR_end (le_of_not c46) hr41
        have h := dn_on h
        refine .exit <| .thx <| .thx <| .inb <| .then <| .seq <| .reg rfl <| .opp (P.mov .t3) rfl <| .opp (P.asg .t0) rfl <| .opp (P.asg .k) rfl <| .nil <| .then ?_
        refine .ret ?_
        cases h
        exact .finw z35 (.r2 rfl (.tmp .g1) (.tmp .g0)) trivial (Ls.of (.cons .k0 .nil)) .nil
attribute [irreducible] script_Put
noncomputable def blob_Int (a0 : List UInt8) : Option (Int) :=
  grd (okS a0.length none (some (if 7 < (a0.length : Int) then 7 else (a0.length : Int))) none) <| Option.bind (loopR (fun (i5 : Nat) (e8 : UInt8) (s6 : Int) => some (.nx (borK .i64 (shlK .i64 s6 8) (e8.toNat : Int)))) 0 (slc a0 0 (if 7 < (a0.length : Int) then 7 else (a0.length : Int)).toNat) 0) fun o9 => Lo.on o9 fun (s6 : Int) => some s6
set_option maxRecDepth 20000 in
set_option maxHeartbeats 8000000 in
theorem S_blob_Int (v00 : Value) (a0 : List UInt8) (r : Int) (h : blob_Int a0 = some r) :
    SpecF Tryz.prog 104 [v00] [] [rows 1 v00 (a0.map (fun x => [B8 x]))] (fun z : Unit => True) (fun z => N r) (fun z M =>  M) (fun z M =>  M) := by
  refine .of func104 rfl ntmps104 rfl fun w0 D0 G0 => ?_
  unfold blob_Int at h
  refine .seq <| .reg rfl <| .op0 (OpP.toV (P.asg .k)) rfl <| .nil <| .then <| .seq <| .reg rfl <| .opp (P.asg .k) rfl <| .nil <| .then <| .seq <| .seq ?_
  refine .reg rfl <| .opp (P.mov .g1) rfl <| .opp (P.mov .t2) rfl <| .op (V.lnr (n := a0.length) .t0 Mm.m0 map_len runUnderlying68) rfl <| .opp (P.min2 .t0 .k) rfl ?_
  obtain ⟨hb1, h⟩ := grd_eq h
  refine .capq Mm.m0 fun hc3 => .opg (G.slr (li := none) (hj := (some (if 7 < (a0.length : Int) then 7 else (a0.length : Int)))) (mk := none) .t1 .none (.some .t0) .none Mm.m0 hc3 runUnderlying68 sizeOf5 (by simpa using hb1) rfl) rfl fun u2 hu4 => .rhead (q := rows 1 u2 ((slc a0 0 (if 7 < (a0.length : Int) then 7 else (a0.length : Int)).toNat).map (fun x => [B8 x]))) (fun _ hh => by simpa [slc_map] using hh) <| .op (V.lnr (n := (slc a0 0 (if 7 < (a0.length : Int) then 7 else (a0.length : Int)).toNat).length) .g0 Mm.m0 map_len runUnderlying68) rfl <| .opp (P.mov .k) rfl <| .nil <| .then <| .block ?_
  obtain ⟨o9, ho10, h⟩ := bnd_eq h
  refine .lenq Mm.m0 fun hl16 => ?_
  rw [map_len] at hl16
  refine .loopR (γ := Unit) (fun i5 (s6 : Int) z7 => [(12, N (i5 : Int)), (11, N ((slc a0 0 (if 7 < (a0.length : Int) then 7 else (a0.length : Int)).toNat).length : Int)), (10, u2), (3, N s6)]) (fun (s6 : Int) z7 => []) (fun (s6 : Int) z7 => [rows 1 u2 ((slc a0 0 (if 7 < (a0.length : Int) then 7 else (a0.length : Int)).toNat).map (fun x => [B8 x])), rows 1 v00 (a0.map (fun x => [B8 x]))]) () ho10 (.cons Mm.m0 (.cons Mm.m1 (.cons Mm.m2 (.cons Mm.m3 .nil)))) (.of .nil) (.cons Mm.m0 (.cons Mm.m1 .nil)) (fun i5 s6 z7 hi17 hr13 => ?_)
  refine .seq <| .reg rfl <| .opp (P.bin (v := Bo (decide ((i5 : Int) < ((slc a0 0 (if 7 < (a0.length : Int) then 7 else (a0.length : Int)).toNat).length : Nat)))) .g0 .g1 .lss) rfl <| .nil <| .then <| .seq <| .cond .t0 (fun c18 => ?_) (fun c18 => ?_)
  · obtain ⟨e8, hx15⟩ := get_of c18
    obtain ⟨ct14, hc11, hn12⟩ := loopR_at hx15 hr13
    refine .skip <| .then <| .seq <| .block <| .seq <| .reg rfl <| .ixq Mm.m0 (map_get hx15) fun p19 q20 hq21 => .opp (P.ixi (i := i5) .g0 rfl .g2 hq21 runUnderlying68 sizeOf5) rfl <| .op (V.ldx0 (u := B8 e8) .t0 hq21 Mm.m0 (map_get hx15) (.one isAgg5 rfl)) rfl <| .opp (P.asg .t0) rfl <| .nil <| .then ?_
    refine .reg rfl <| .opp (P.mov .g4) rfl <| .opp (P.bin .t0 .k (.shl (by decide))) rfl <| .opp (P.mov .t1) rfl <| .opp (P.cnvIB8 (x := e8) .t0 runUnderlying5 runUnderlying3) rfl <| .opp (P.bin .t1 .t0 .or) rfl <| .drop .k4 <| .opp (P.asg .t0) rfl <| .nil <| .inn <| .then <| .reg rfl ?_
    refine .opp (P.bin .g1 .k (.addc (inc_ok (lt_of_get hx15) hl16))) rfl <| .drop .k2 <| .opp (P.mov .t0) rfl <| .nil ?_
    cases hc11
    exact .rdR (borK .i64 (shlK .i64 s6 8) (e8.toNat : Int)) () hn12 (lt_of_get hx15) (.cons Mm.m0 (.cons Mm.m2 (.cons Mm.m3 (.cons Mm.m1 .nil)))) (.of .nil) (.cons Mm.m0 (.cons Mm.m1 .nil))
  · obtain rfl := loopR_end (le_of_not c18) hr13
    have h := dn_on h
    refine .exit <| .thx <| .thx <| .inb <| .then <| .seq <| .reg rfl <| .opp (P.mov .t3) rfl <| .opp (P.asg .t0) rfl <| .nil <| .then <| .ret ?_
    cases h
    exact .finw () (.r1 rfl (.tmp .g0)) trivial (Ls.of .nil) .nil
attribute [irreducible] blob_Int
noncomputable def slices_Concat_byte_n1 (a0a : List UInt8) : Option ((List UInt8)) :=
  if (decide ((IntKind.i64.wrap (0 + (a0a.length : Int))) < 0)) = true then none else (Option.bind (slices_Grow_byte_nil (IntKind.i64.wrap (0 + (a0a.length : Int)))) fun r5 => grd ((r5.length + a0a.length) * 1 ≤ 140737488355328) <| some (r5 ++ a0a))
set_option maxRecDepth 20000 in
set_option maxHeartbeats 8000000 in
theorem S_slices_Concat_byte_n1 (v00 : Value) (z00a : Value) (a0a : List UInt8) (r : (List UInt8)) (h : slices_Concat_byte_n1 a0a = some r) :
    SpecF Tryz.prog 136 [v00] [] [rows 1 v00 [[z00a]], rows 1 z00a (a0a.map (fun x => [B8 x]))] (fun z : Value => True) (fun z => z) (fun z M => lst 5 1 z (r.map (fun x => [B8 x])) ::  M) (fun z M =>  M) := by
  refine .of func136 rfl ntmps136 rfl fun w0 D0 G0 => ?_
  unfold slices_Concat_byte_n1 at h
  refine .seq <| .reg rfl <| .op0 (OpP.toV (P.asg .k)) rfl <| .nil <| .then <| .seq <| .reg rfl <| .opp (P.asg .k) rfl <| .nil <| .then <| .seq <| .seq ?_
  refine .reg rfl <| .opp (P.mov .g1) rfl <| .op (V.lnr (n := 1) .g0 Mm.m0 rfl runUnderlying141) rfl <| .opp (P.mov .k) rfl <| .nil <| .then <| .block <| .rounds 2 <| .rd <| .seq <| .reg rfl <| .opp (P.bin (v := Bo true) .g0 .g1 (BinV.lss.boolc (by decide))) rfl ?_
  refine .nil <| .then <| .seq <| .condT .t0 <| .skip <| .then <| .seq <| .block <| .seq <| .reg rfl <| .ixq Mm.m0 (show [[z00a]][0]? = some [z00a] from rfl) fun p1 q2 hq3 => .opp (P.ixi (i := 0) .g0 rfl .g2 hq3 runUnderlying141 sizeOf68) rfl ?_
  refine .op (V.ldx0 (u := z00a) .t0 hq3 Mm.m0 (show [[z00a]][0]? = some [z00a] from rfl) (.one isAgg68 rfl)) rfl <| .opp (P.asg .t0) rfl <| .nil <| .then <| .seq <| .reg rfl <| .opp (P.mov .g4) rfl <| .opp (P.mov .t1) rfl <| .op (V.lnr (n := a0a.length) .t0 Mm.m1 map_len runUnderlying68) rfl <| .opp (P.bin .t1 .t0 .add) rfl <| .drop .k4 <| .opp (P.asg .t0) rfl ?_
  refine .nil <| .then <| .seq <| .reg rfl <| .opp (P.mov .g0) rfl <| .opp (P.bin .t0 .k .lss) rfl <| .nil <| .then <| .cond .t0 (fun c4 => ?_) (fun c4 => ?_)
  · rw [if_pos c4] at h
    refine .reg rfl ?_
    cases h
  · rw [if_neg (ne_true_of_eq_false c4)] at h
    refine .skip <| .inn <| .then <| .reg rfl <| .opp (P.bin (v := N 1) .g1 .k (.addc (by decide))) rfl <| .drop .k2 <| .opp (P.mov .t0) rfl <| .nil <| .then <| .rd <| .seq <| .reg rfl ?_
    refine .opp (P.bin (v := Bo false) .g0 .g2 (BinV.lss.boolc (by decide))) rfl <| .nil <| .then <| .seq <| .condF .t0 <| .exit <| .thx <| .thx <| .inb <| .then <| .seq <| .reg rfl ?_
    refine .opp (P.mov .t1) rfl ?_
    obtain ⟨r5, hr6, h⟩ := bnd_eq h
    refine .opg (G.call call198 (.cons .k (.cons .t0 .nil)) (S_slices_Grow_byte_nil (IntKind.i64.wrap (0 + (a0a.length : Int))) r5 hr6) .nil .nil (fun _ _ => rfl) (fun _ _ => rfl) rfl) rfl fun u7 _ => .opp (P.asg .t0) rfl <| .nil <| .then <| .seq <| .seq <| .reg rfl <| .opp (P.mov .t4) rfl <| .op (V.lnr (n := 1) .g0 Mm.m0 rfl runUnderlying141) rfl <| .opp (P.mov .k) rfl <| .nil <| .then ?_
    refine .block <| .rounds 2 <| .rd <| .seq <| .reg rfl <| .opp (P.bin (v := Bo true) .g0 .g1 (BinV.lss.boolc (by decide))) rfl <| .nil <| .then <| .seq <| .condT .t0 <| .skip <| .then ?_
    refine .seq <| .block <| .seq <| .reg rfl <| .ixq Mm.m0 (show [[z00a]][0]? = some [z00a] from rfl) fun p8 q9 hq10 => .opp (P.ixi (i := 0) .g0 rfl .g2 hq10 runUnderlying141 sizeOf68) rfl <| .op (V.ldx0 (u := z00a) .t0 hq10 Mm.m0 (show [[z00a]][0]? = some [z00a] from rfl) (.one isAgg68 rfl)) rfl <| .opp (P.asg .t0) rfl <| .nil <| .then <| .reg rfl <| .opp (P.mov .g4) rfl ?_
    refine .opp (P.mov .t1) rfl ?_
    obtain ⟨hb12, h⟩ := grd_eq h
    refine .opg (G.app (by_ := 1) .t1 .t0 .k0 (.inl Mm.m1) runUnderlying68 runUnderlying68 sizeOf5 typeInfo5 rfl rfl zeroValue5 rfl (one_map one_5 _) (by simpa using hb12) rfl) rfl fun u11 _ => .conseq .k0 (q := lst 5 1 u11 ((r5 ++ a0a).map (fun x => [B8 x]))) (fun _ hh => by simpa [List.map_append] using hh) <| .drop .k4 <| .opp (P.asg .t0) rfl <| .nil <| .inn <| .then <| .reg rfl <| .opp (P.bin (v := N 1) .g1 .k (.addc (by decide))) rfl <| .drop .k2 <| .opp (P.mov .t0) rfl <| .nil ?_
    refine .then <| .rd <| .seq <| .reg rfl <| .opp (P.bin (v := Bo false) .g0 .g2 (BinV.lss.boolc (by decide))) rfl <| .nil <| .then <| .seq <| .condF .t0 <| .exit <| .thx <| .thx ?_
    refine .inb <| .then <| .seq <| .reg rfl <| .opp (P.mov .t1) rfl <| .opp (P.asg .t0) rfl <| .nil <| .then <| .ret ?_
    cases h
    exact .finw u11 (.r1 rfl (.tmp .g0)) trivial (Ls.of (.cons .k0 .nil)) .nil
attribute [irreducible] slices_Concat_byte_n1
noncomputable def blob_Cat_n1 (a0a : List UInt8) : Option ((List UInt8)) :=
  Option.bind (slices_Concat_byte_n1 a0a) fun r1 => some r1
set_option maxRecDepth 20000 in
set_option maxHeartbeats 8000000 in
theorem S_blob_Cat_n1 (v00 : Value) (z00a : Value) (a0a : List UInt8) (r : (List UInt8)) (h : blob_Cat_n1 a0a = some r) :
    SpecF Tryz.prog 91 [v00] [] [rows 1 v00 [[z00a]], rows 1 z00a (a0a.map (fun x => [B8 x]))] (fun z : Value => True) (fun z => z) (fun z M => lst 5 1 z (r.map (fun x => [B8 x])) ::  M) (fun z M =>  M) := by
  refine .of func91 rfl ntmps91 rfl fun w0 D0 G0 => ?_
  unfold blob_Cat_n1 at h
  refine .seq <| .reg rfl <| .op0 (OpP.toV (P.asg .k)) rfl <| .nil <| .then <| .seq <| .reg rfl <| .opp (P.mov .t0) rfl ?_
  obtain ⟨r1, hr2, h⟩ := bnd_eq h
  refine .opg (G.call call136 (.cons .t0 .nil) (S_slices_Concat_byte_n1 v00 z00a a0a r1 hr2) .nil (.cons Mm.m0 (.cons Mm.m1 .nil)) (fun _ _ => rfl) (fun _ _ => rfl) rfl) rfl fun u3 _ => .opp (P.asg .t0) rfl <| .nil <| .then <| .ret ?_
  cases h
  exact .finw u3 (.r1 rfl (.tmp .g0)) trivial (Ls.of (.cons .k0 .nil)) .nil
attribute [irreducible] blob_Cat_n1
noncomputable def script_next (a0 : List UInt8) : Option (api_Step × (List UInt8) × Bool) :=
  if (decide ((a0.length : Int) < 9)) = true then (some (((⟨0, 0, 0, 0, []⟩ : api_Step), ([] : List UInt8), false))) else (grd (okS a0.length (some 7) (some 9) none) <| Option.bind (blob_Int (slc a0 (7 : Int).toNat (9 : Int).toNat)) fun r7 => thn (if (decide (r7 > 1024)) = true then true else (decide (r7 > (IntKind.i64.wrap ((a0.length : Int) - 9))))) fun (y9 : Bool) => if y9 = true then (some (((⟨0, 0, 0, 0, []⟩ : api_Step), ([] : List UInt8), false))) else (grd (okS a0.length (some 1) (some 3) none) <| Option.bind (blob_Int (slc a0 (1 : Int).toNat (3 : Int).toNat)) fun r19 => grd (okS a0.length (some 3) (some 5) none) <| Option.bind (blob_Int (slc a0 (3 : Int).toNat (5 : Int).toNat)) fun r25 => grd (okS a0.length (some 5) (some 7) none) <| Option.bind (blob_Int (slc a0 (5 : Int).toNat (7 : Int).toNat)) fun r31 => Option.bind (at_ a0 0) fun (x36 : UInt8) => grd (okS a0.length (some 9) (some (IntKind.i64.wrap (9 + r7))) none) <| grd (okS a0.length (some (IntKind.i64.wrap (9 + r7))) none none) <| Option.bind (blob_Cat_n1 (slc a0 (9 : Int).toNat (IntKind.i64.wrap (9 + r7)).toNat)) fun r52 => some (((⟨(x36.toNat : Int), IntKind.i64.wrap (r19 - 32768), IntKind.i64.wrap (r25 - 32768), IntKind.i64.wrap (r31 - 32768), r52⟩ : api_Step), (slc a0 (IntKind.i64.wrap (9 + r7)).toNat a0.length), true))))
set_option maxRecDepth 20000 in
set_option maxHeartbeats 8000000 in
theorem S_script_next (v00 : Value) (a0 : List UInt8) (r : api_Step × (List UInt8) × Bool) (h : script_next a0 = some r) :
    SpecF Tryz.prog 61 [v00] [] [rows 1 v00 (a0.map (fun x => [B8 x]))] (fun z : Value × Value => True) (fun z => Tu [Ag (api_Step.cs r.1 z.1), z.2, Bo r.2.2]) (fun z M => lst 5 1 z.1 (r.1.Data.map (fun x => [B8 x])) ::  M) (fun z M => rows 1 z.2 (r.2.1.map (fun x => [B8 x])) ::  M) := by
  refine .of func61 rfl ntmps61 rfl fun w0 D0 G0 => ?_
  unfold script_next at h
  refine .seq <| .reg rfl <| .opx (X.alc (cs := (api_Step.cs ⟨0, 0, 0, 0, []⟩ nilSl)) zeroValue70 rfl) rfl fun b1 => .op0 (OpP.toV (P.asg .k)) rfl <| .op0 (OpP.toV (P.asg .k)) rfl <| .nil <| .then <| .seq <| .seq <| .reg rfl <| .opp (P.mov .g1) rfl <| .op (V.lnr (n := a0.length) .t0 Mm.m0 map_len runUnderlying68) rfl ?_
  refine .opp (P.bin .t0 .k .lss) rfl <| .nil <| .then <| .cond .t0 (fun c2 => ?_) (fun c2 => ?_)
  · rw [if_pos c2] at h
    refine .seq <| .reg rfl <| .opp (P.bld (v := Ag (api_Step.cs ⟨0, 0, 0, 0, []⟩ nilSl)) .nil (bld_run zeroValue70 runUnderlying70 pl_70 (by kernel_rfl))) rfl <| .opg (G.str .t0 .g0 .k0 (.mk (cs' := (api_Step.cs ⟨0, 0, 0, 0, []⟩ nilSl)) sizeOf70 rfl (onez_70 _ rfl) rfl rfl)) rfl fun _ _ => .opp (P.asg .k) rfl <| .opp (P.asg .k) rfl <| .nil <| .then <| .ret <| .thr ?_
    cases h
    exact .lnil 5 1 <| .rnil0 1 <| .finw ⟨nilSl, nilSl⟩ (.r3 rfl (.cell .g2 .k1 (.agg isAgg70 sizeOf70 rfl rfl)) (.tmp .g1) (.tmp .g0)) trivial (Ls.of (.cons .k0 .nil)) (.cons Mm.m0 .nil)
  · rw [if_neg (ne_true_of_eq_false c2)] at h
    refine .skip <| .then <| .seq <| .reg rfl <| .opp (P.mov .g1) rfl ?_
    obtain ⟨hb3, h⟩ := grd_eq h
    refine .capq Mm.m0 fun hc5 => .opg (G.slr (li := (some 7)) (hj := (some 9)) (mk := none) .t0 (.some .k) (.some .k) .none Mm.m0 hc5 runUnderlying68 sizeOf5 (by simpa using hb3) rfl) rfl fun u4 hu6 => .rhead (q := rows 1 u4 ((slc a0 (7 : Int).toNat (9 : Int).toNat).map (fun x => [B8 x]))) (fun _ hh => by simpa [slc_map] using hh) ?_
    obtain ⟨r7, hr8, h⟩ := bnd_eq h
    refine .opg (G.call call104 (.cons .t0 .nil) (S_blob_Int u4 (slc a0 (7 : Int).toNat (9 : Int).toNat) r7 hr8) .nil (.cons Mm.m0 .nil) (fun _ _ => rfl) (fun _ _ => rfl) rfl) rfl fun _ _ => .opp (P.asg .t0) rfl <| .nil <| .then <| .seq ?_
    obtain ⟨y9, hj11, h⟩ := thn_eq h
    refine .cutx (γ := Unit) (E1 := fun z10 => [(23, Bo y9), (5, N r7), (2, pt b1 0), (0, v00)]) (L1 := fun z10 => [blk b1 70 (api_Step.cs ⟨0, 0, 0, 0, []⟩ nilSl)]) (R1 := fun z10 => [rows 1 v00 (a0.map (fun x => [B8 x]))]) ?_ (fun z10 => ?_)
    · clear h
      refine .reg rfl <| .opp (P.mov .g0) rfl <| .opp (P.bin .t0 .k .gtr) rfl <| .opp (P.mov .t0) rfl <| .split .k0 (fun c12 => ?_) (fun c12 => ?_)
      · rw [if_pos c12] at hj11
        refine .gno rfl .g0 rfl rfl <| .gno rfl .g0 rfl rfl <| .gno rfl .g0 rfl rfl <| .gno rfl .g0 rfl rfl <| .gno rfl .g0 rfl rfl <| .opp (P.pickT .t0 .k) rfl <| .nil ?_
        subst hj11
        exact .stj () (.cons Mm.m0 (.cons Mm.m1 (.cons Mm.m2 (.cons Mm.m3 .nil)))) (.of (.cons .k0 .nil)) (.cons Mm.m1 .nil)
      · rw [if_neg (ne_true_of_eq_false c12)] at hj11
        refine .gyes rfl .g0 <| .opp (P.mov .g1) rfl <| .gyes rfl .g1 <| .opp (P.mov .g4) rfl <| .gyes rfl .g2 <| .op (V.lnr (n := a0.length) .t0 Mm.m1 map_len runUnderlying68) rfl <| .gyes rfl .g2 <| .opp (P.bin .t0 .k .sub) rfl <| .gyes rfl .g2 <| .opp (P.bin .t1 .t0 .gtr) rfl <| .opp (P.pickF .t1 .t0) rfl <| .nil ?_
        subst hj11
        exact .stj () (.cons Mm.m0 (.cons Mm.m1 (.cons Mm.m2 (.cons Mm.m3 .nil)))) (.of (.cons .k0 .nil)) (.cons Mm.m1 .nil)
    · clear hj11
      refine .cond .t0 (fun c13 => ?_) (fun c13 => ?_)
      · rw [if_pos c13] at h
        refine .seq <| .reg rfl <| .opp (P.bld (v := Ag (api_Step.cs ⟨0, 0, 0, 0, []⟩ nilSl)) .nil (bld_run zeroValue70 runUnderlying70 pl_70 (by kernel_rfl))) rfl <| .opg (G.str .t0 .g1 .k0 (.mk (cs' := (api_Step.cs ⟨0, 0, 0, 0, []⟩ nilSl)) sizeOf70 rfl (onez_70 _ rfl) rfl rfl)) rfl fun _ _ => .opp (P.asg .k) rfl <| .opp (P.asg .k) rfl <| .nil <| .then <| .ret <| .thr ?_
        cases h
        exact .lnil 5 1 <| .rnil0 1 <| .finw ⟨nilSl, nilSl⟩ (.r3 rfl (.cell .g3 .k1 (.agg isAgg70 sizeOf70 rfl rfl)) (.tmp .g1) (.tmp .g0)) trivial (Ls.of (.cons .k0 .nil)) (.cons Mm.m0 .nil)
      · rw [if_neg (ne_true_of_eq_false c13)] at h
        refine .skip <| .then <| .seq <| .reg rfl <| .opx (X.alc (cs := (A3_i64.cs ⟨0, 0, 0⟩)) zeroValue189 rfl) rfl fun b14 => .nil <| .then <| .seq <| .seq <| .reg rfl <| .opp (P.mov .k) rfl <| .nil ?_
        refine .then <| .block <| .rounds 4 <| .rd <| .seq <| .reg rfl <| .opp (P.bin (v := Bo true) .g0 .k (BinV.lss.boolc (by decide))) rfl <| .nil <| .then <| .seq <| .condT .t0 <| .skip ?_
        refine .then <| .seq <| .block <| .seq <| .reg rfl <| .opp (P.mov .g0) rfl <| .opp (P.asg .t0) rfl <| .nil <| .then <| .reg rfl <| .opp (P.mov .g0) rfl <| .opp (P.mov .g6) rfl ?_
        refine .opp (P.mov .g2) rfl <| .opp (P.bin (v := N 0) .k .t0 (.mulc (by decide))) rfl <| .opp (P.bin (v := N 1) .k .t0 (.addc (by decide))) rfl <| .opp (P.mov .t3) rfl <| .opp (P.bin (v := N 0) .k .t0 (.mulc (by decide))) rfl <| .opp (P.bin (v := N 3) .k .t0 (.addc (by decide))) rfl ?_
        obtain ⟨hb15, h⟩ := grd_eq h
        refine .capq Mm.m0 fun hc17 => .opg (G.slr (li := (some 1)) (hj := (some 3)) (mk := none) .t2 (.some .t1) (.some .t0) .none Mm.m0 hc17 runUnderlying68 sizeOf5 (by simpa using hb15) rfl) rfl fun u16 hu18 => .rhead (q := rows 1 u16 ((slc a0 (1 : Int).toNat (3 : Int).toNat).map (fun x => [B8 x]))) (fun _ hh => by simpa [slc_map] using hh) ?_
        obtain ⟨r19, hr20, h⟩ := bnd_eq h
        refine .opg (G.call call104 (.cons .t0 .nil) (S_blob_Int u16 (slc a0 (1 : Int).toNat (3 : Int).toNat) r19 hr20) .nil (.cons Mm.m0 .nil) (fun _ _ => rfl) (fun _ _ => rfl) rfl) rfl fun _ _ => .opp (P.bin .t0 .k .sub) rfl <| .opp (P.iac (i := 0) .t1 rfl .g2 runUnderlying189 sizeOf3 rfl rfl) rfl <| .opg (G.str .t1 .t0 .k0 (.mk (cs' := (A3_i64.cs ⟨IntKind.i64.wrap (r19 - 32768), 0, 0⟩)) sizeOf3 rfl rfl rfl rfl)) rfl fun _ _ => .nil <| .inn <| .then <| .reg rfl <| .opp (P.bin (v := N 1) .g0 .k (.addc (by decide))) rfl <| .drop .k1 <| .opp (P.mov .t0) rfl <| .nil ?_
        refine .then <| .rd <| .seq <| .reg rfl <| .opp (P.bin (v := Bo true) .g0 .k (BinV.lss.boolc (by decide))) rfl <| .nil <| .then <| .seq <| .condT .t0 <| .skip <| .then <| .seq ?_
        refine .block <| .seq <| .reg rfl <| .opp (P.mov .g0) rfl <| .opp (P.asg .t0) rfl <| .nil <| .then <| .reg rfl <| .opp (P.mov .g0) rfl <| .opp (P.mov .g6) rfl <| .opp (P.mov .g2) rfl <| .opp (P.bin (v := N 2) .k .t0 (.mulc (by decide))) rfl ?_
        refine .opp (P.bin (v := N 3) .k .t0 (.addc (by decide))) rfl <| .opp (P.mov .t3) rfl <| .opp (P.bin (v := N 2) .k .t0 (.mulc (by decide))) rfl <| .opp (P.bin (v := N 5) .k .t0 (.addc (by decide))) rfl ?_
        obtain ⟨hb21, h⟩ := grd_eq h
        refine .capq Mm.m1 fun hc23 => .opg (G.slr (li := (some 3)) (hj := (some 5)) (mk := none) .t2 (.some .t1) (.some .t0) .none Mm.m1 hc23 runUnderlying68 sizeOf5 (by simpa using hb21) rfl) rfl fun u22 hu24 => .rhead (q := rows 1 u22 ((slc a0 (3 : Int).toNat (5 : Int).toNat).map (fun x => [B8 x]))) (fun _ hh => by simpa [slc_map] using hh) ?_
        obtain ⟨r25, hr26, h⟩ := bnd_eq h
        refine .opg (G.call call104 (.cons .t0 .nil) (S_blob_Int u22 (slc a0 (3 : Int).toNat (5 : Int).toNat) r25 hr26) .nil (.cons Mm.m0 .nil) (fun _ _ => rfl) (fun _ _ => rfl) rfl) rfl fun _ _ => .opp (P.bin .t0 .k .sub) rfl <| .opp (P.iac (i := 1) .t1 rfl .g2 runUnderlying189 sizeOf3 rfl rfl) rfl <| .opg (G.str .t1 .t0 .k0 (.mk (cs' := (A3_i64.cs ⟨IntKind.i64.wrap (r19 - 32768), IntKind.i64.wrap (r25 - 32768), 0⟩)) sizeOf3 rfl rfl rfl rfl)) rfl fun _ _ => .nil <| .inn <| .then <| .reg rfl <| .opp (P.bin (v := N 2) .g0 .k (.addc (by decide))) rfl <| .drop .k1 <| .opp (P.mov .t0) rfl <| .nil ?_
        refine .then <| .rd <| .seq <| .reg rfl <| .opp (P.bin (v := Bo true) .g0 .k (BinV.lss.boolc (by decide))) rfl <| .nil <| .then <| .seq <| .condT .t0 <| .skip <| .then <| .seq ?_
        refine .block <| .seq <| .reg rfl <| .opp (P.mov .g0) rfl <| .opp (P.asg .t0) rfl <| .nil <| .then <| .reg rfl <| .opp (P.mov .g0) rfl <| .opp (P.mov .g6) rfl <| .opp (P.mov .g2) rfl <| .opp (P.bin (v := N 4) .k .t0 (.mulc (by decide))) rfl ?_
        refine .opp (P.bin (v := N 5) .k .t0 (.addc (by decide))) rfl <| .opp (P.mov .t3) rfl <| .opp (P.bin (v := N 4) .k .t0 (.mulc (by decide))) rfl <| .opp (P.bin (v := N 7) .k .t0 (.addc (by decide))) rfl ?_
        obtain ⟨hb27, h⟩ := grd_eq h
        refine .capq Mm.m2 fun hc29 => .opg (G.slr (li := (some 5)) (hj := (some 7)) (mk := none) .t2 (.some .t1) (.some .t0) .none Mm.m2 hc29 runUnderlying68 sizeOf5 (by simpa using hb27) rfl) rfl fun u28 hu30 => .rhead (q := rows 1 u28 ((slc a0 (5 : Int).toNat (7 : Int).toNat).map (fun x => [B8 x]))) (fun _ hh => by simpa [slc_map] using hh) ?_
        obtain ⟨r31, hr32, h⟩ := bnd_eq h
        refine .opg (G.call call104 (.cons .t0 .nil) (S_blob_Int u28 (slc a0 (5 : Int).toNat (7 : Int).toNat) r31 hr32) .nil (.cons Mm.m0 .nil) (fun _ _ => rfl) (fun _ _ => rfl) rfl) rfl fun _ _ => .opp (P.bin .t0 .k .sub) rfl <| .opp (P.iac (i := 2) .t1 rfl .g2 runUnderlying189 sizeOf3 rfl rfl) rfl <| .opg (G.str .t1 .t0 .k0 (.mk (cs' := (A3_i64.cs ⟨IntKind.i64.wrap (r19 - 32768), IntKind.i64.wrap (r25 - 32768), IntKind.i64.wrap (r31 - 32768)⟩)) sizeOf3 rfl rfl rfl rfl)) rfl fun _ _ => .nil <| .inn <| .then <| .reg rfl <| .opp (P.bin (v := N 3) .g0 .k (.addc (by decide))) rfl <| .drop .k1 <| .opp (P.mov .t0) rfl <| .nil ?_
        refine .then <| .rd <| .seq <| .reg rfl <| .opp (P.bin (v := Bo false) .g0 .k (BinV.lss.boolc (by decide))) rfl <| .nil <| .then <| .seq <| .condF .t0 <| .exit <| .thx <| .thx ?_
        refine .inb <| .then <| .seq <| .drawl [blk b14 189 (A3_i64.cs ⟨IntKind.i64.wrap (r19 - 32768), IntKind.i64.wrap (r25 - 32768), IntKind.i64.wrap (r31 - 32768)⟩)] [rows 1 u28 ((slc a0 (5 : Int).toNat (7 : Int).toNat).map (fun x => [B8 x])), rows 1 u22 ((slc a0 (3 : Int).toNat (5 : Int).toNat).map (fun x => [B8 x])), rows 1 u16 ((slc a0 (1 : Int).toNat (3 : Int).toNat).map (fun x => [B8 x])), rows 1 v00 (a0.map (fun x => [B8 x]))] (Ls.of (.cons .k0 .nil)) (Rs.cons Mm.m0 (Rs.cons Mm.m1 (Rs.cons Mm.m2 (Rs.cons Mm.m3 Rs.nil)))) 24 (.on 0 .pu (.on 1 .pu (.on 4 .pu (.on 6 .pu (.on 8 .pu (.on 10 .pu (.on 11 .pu (.on 12 .pu (.on 13 .pu (.on 17 .pu (.on 18 .pu (.on 19 .pu (.on 20 .pu (.on 2 .ld (.on 3 .pu (.on 5 .ld (.on 7 .ld (.on 9 .ld (.on 14 .go (.on 15 .go (.on 16 .pu (.on 21 .go (.on 22 .go (.on 23 .go .nl)))))))))))))))))))))))) follows_mixed (.thn .body) (by kernel_rfl) <| .dpu rfl (.n rfl) (P.mov .g4) rfl rfl ?_
        obtain ⟨x36, hx37, h⟩ := bnd_eq h
        obtain ⟨i38, hi39, hx37⟩ := at_eq hx37
        have hi39_ : (0 : Int).toNat = i38 := by rw [hi39]; rfl
        refine .ixq Mm.m3 (map_get hx37) fun p33 q34 hq35 => .dpu rfl (.n rfl) (P.ixi (i := i38) .k hi39 .t0 hq35 runUnderlying68 sizeOf5) rfl rfl <| .dpu rfl (.n rfl) (P.iac (i := 0) .k rfl .g2 runUnderlying189 sizeOf3 rfl rfl) rfl rfl <| .dpu rfl (.n rfl) (P.iac (i := 1) .k rfl .g3 runUnderlying189 sizeOf3 rfl rfl) rfl rfl <| .dpu rfl (.n rfl) (P.iac (i := 2) .k rfl .t4 runUnderlying189 sizeOf3 rfl rfl) rfl rfl <| .dpu rfl (.n rfl) (P.mov .g7) rfl rfl <| .dpu rfl (.n rfl) (P.mov .g6) rfl rfl <| .dpu rfl (.n rfl) (P.bin .k .t0 .add) rfl rfl ?_
        obtain ⟨hb40, h⟩ := grd_eq h
        refine .slnq Mm.m3 fun hq44 => ?_
        simp only [List.length_map] at hq44
        refine .dpu rfl (.n rfl) (P.slp (li := (some 9)) (hj := (some (IntKind.i64.wrap (9 + r7)))) (mk := none) .t1 (.some .k) (.some .t0) .none hq44 runUnderlying68 sizeOf5 (by simpa using hb40)) rfl rfl <| .slgen Mm.m3 (by simpa using hb40) fun u41 => .rhead (q := rows 1 u41 ((slc a0 (9 : Int).toNat (IntKind.i64.wrap (9 + r7)).toNat).map (fun x => [B8 x]))) (fun _ hh => by simpa [slc_map] using hh) <| .dpu rfl (.n rfl) (P.mov .t8) rfl rfl <| .dpu rfl (.n rfl) (P.mov .t7) rfl rfl <| .dpu rfl (.n rfl) (P.bin .k .t0 .add) rfl rfl ?_
        obtain ⟨hb45, h⟩ := grd_eq h
        refine .slnq Mm.m4 fun hq49 => ?_
        simp only [List.length_map] at hq49
        refine .dpu rfl (.n rfl) (P.slp (li := (some (IntKind.i64.wrap (9 + r7)))) (hj := none) (mk := none) .t1 (.some .t0) .none .none hq49 runUnderlying68 sizeOf5 (by simpa using hb45)) rfl rfl <| .slgen Mm.m4 (by simpa using hb45) fun u46 => .rhead (q := rows 1 u46 ((slc a0 (IntKind.i64.wrap (9 + r7)).toNat a0.length).map (fun x => [B8 x]))) (fun _ hh => by simpa [slc_map] using hh) <| .dld rfl (.n rfl) (V.ldx0 (u := B8 x36) .t5 hq35 Mm.m3 (map_get hx37) (.one isAgg5 rfl)) (fun _ h => (h.imp (Ls.of (.cons .k0 .nil))).ro (Rs.cons Mm.m2 (Rs.cons Mm.m3 (Rs.cons Mm.m4 (Rs.cons Mm.m5 Rs.nil))))) rfl rfl <| .dpu rfl (.n rfl) (P.cnvIB8 (x := x36) .t0 runUnderlying5 runUnderlying3) rfl rfl <| .dld rfl (.n rfl) (V.ld (v := N (IntKind.i64.wrap (r19 - 32768))) .t5 .k0 (.one isAgg3 rfl)) (fun _ h => (h.imp (Ls.of (.cons .k0 .nil))).ro (Rs.cons Mm.m2 (Rs.cons Mm.m3 (Rs.cons Mm.m4 (Rs.cons Mm.m5 Rs.nil))))) rfl rfl <| .dld rfl (.n rfl) (V.ld (v := N (IntKind.i64.wrap (r25 - 32768))) .t5 .k0 (.one isAgg3 rfl)) (fun _ h => (h.imp (Ls.of (.cons .k0 .nil))).ro (Rs.cons Mm.m2 (Rs.cons Mm.m3 (Rs.cons Mm.m4 (Rs.cons Mm.m5 Rs.nil))))) rfl rfl <| .dld rfl (.n rfl) (V.ld (v := N (IntKind.i64.wrap (r31 - 32768))) .t5 .k0 (.one isAgg3 rfl)) (fun _ h => (h.imp (Ls.of (.cons .k0 .nil))).ro (Rs.cons Mm.m2 (Rs.cons Mm.m3 (Rs.cons Mm.m4 (Rs.cons Mm.m5 Rs.nil))))) rfl rfl <| .oner Mm.m1 fun ho51 => .dgo rfl (.n rfl) (G.bsl (cs := [u41]) .t5 runUnderlying141 sizeOf68 zeroValue68 (cells1 ho51) rfl rfl rfl rfl) (.inr fun _ _ _ h => (h.imp (Ls.of (.cons .k1 .nil))).ro (Rs.cons Mm.m2 (Rs.cons Mm.m3 (Rs.cons Mm.m4 (Rs.cons Mm.m5 Rs.nil))))) fun u50 _ => .frz .k0 ?_
        obtain ⟨r52, hr53, h⟩ := bnd_eq h
        refine .dgo rfl (.n rfl) (G.call call91 (.cons .t0 .nil) (S_blob_Cat_n1 u50 u41 (slc a0 (9 : Int).toNat (IntKind.i64.wrap (9 + r7)).toNat) r52 hr53) .nil (.cons Mm.m0 (.cons Mm.m2 .nil)) (fun _ _ => rfl) (fun _ _ => rfl) rfl) (.inr fun _ _ _ h => (h.imp (Ls.of (.cons .k1 .nil))).ro (Rs.cons Mm.m3 (Rs.cons Mm.m4 (Rs.cons Mm.m5 (Rs.cons Mm.m6 Rs.nil))))) fun u54 _ => .cell .k0 fun hv55 => .dpu rfl (.n rfl) (P.bld (v := Ag (api_Step.cs ⟨(x36.toNat : Int), IntKind.i64.wrap (r19 - 32768), IntKind.i64.wrap (r25 - 32768), IntKind.i64.wrap (r31 - 32768), []⟩ u54)) (.cons .t4 (.cons .t3 (.cons .t2 (.cons .t1 (.cons .t0 .nil))))) (bld_run zeroValue70 runUnderlying70 pl_70 (by obtain ⟨_, _, _, rfl⟩ := hv55; kernel_rfl))) rfl rfl <| .onel .k0 fun ho56 => .dgo rfl (.n rfl) (G.str .t0 .g2 .k2 (.mk (cs' := (api_Step.cs ⟨(x36.toNat : Int), IntKind.i64.wrap (r19 - 32768), IntKind.i64.wrap (r25 - 32768), IntKind.i64.wrap (r31 - 32768), []⟩ u54)) sizeOf70 rfl (onez_70 _ ho56) rfl rfl)) (.inr fun _ _ _ h => (h.imp (Ls.of (.cons .k2 .nil))).ro (Rs.cons Mm.m3 (Rs.cons Mm.m4 (Rs.cons Mm.m5 (Rs.cons Mm.m6 Rs.nil))))) fun _ _ => .dgo rfl (.n rfl) (OpV.g (OpP.toV (P.asg .t0)) rfl) (.inr fun _ _ _ h => (h.imp (Ls.of (.cons .k2 .nil))).ro (Rs.cons Mm.m3 (Rs.cons Mm.m4 (Rs.cons Mm.m5 (Rs.cons Mm.m6 Rs.nil))))) fun _ _ => .dgo rfl (.n rfl) (OpV.g (OpP.toV (P.asg .k)) rfl) (.inr fun _ _ _ h => (h.imp (Ls.of (.cons .k2 .nil))).ro (Rs.cons Mm.m3 (Rs.cons Mm.m4 (Rs.cons Mm.m5 (Rs.cons Mm.m6 Rs.nil))))) fun _ _ => .dnil <| .then <| .ret ?_
        cases h
        exact .finw ⟨u54, u46⟩ (.r3 rfl (.cell .g3 .k0 (.agg isAgg70 sizeOf70 rfl rfl)) (.tmp .g1) (.tmp .g0)) trivial (Ls.of (.cons .k1 .nil)) (.cons Mm.m1 .nil)
attribute [irreducible] script_next
noncomputable def script_Read (a0 : List UInt8) : Option ((List api_Step) × Int) :=
  if (decide ((a0.length : Int) > 8192)) = true then (some ((([] : List api_Step), 5))) else (Option.bind (loopW (fun (s2 : (List api_Step) × (List UInt8)) => if (decide ((s2.2.length : Int) > 0)) = true then (Option.bind (script_next s2.2) fun r12 => if (!r12.2.2) = true then (Option.map Ct.rt (some ((([] : List api_Step), 16)))) else (grd ((s2.1.length + ([r12.1] : List api_Step).length) * 56 ≤ 140737488355328) <| some (.nx (((s2.1 ++ ([r12.1] : List api_Step)), r12.2.1))))) else (some (.br (s2.1, s2.2)))) ([], a0)) fun o4 => Lo.on o4 fun (s2 : (List api_Step) × (List UInt8)) => if (decide ((s2.1.length : Int) > 512)) = true then (some ((([] : List api_Step), 3))) else (some (s2.1, 0)))
set_option maxRecDepth 20000 in
set_option maxHeartbeats 8000000 in
theorem S_script_Read (v00 : Value) (a0 : List UInt8) (r : (List api_Step) × Int) (h : script_Read a0 = some r) :
    SpecF Tryz.prog 30 [v00] [] [rows 1 v00 (a0.map (fun x => [B8 x]))] (fun z : Value × List Value => True) (fun z => Tu [z.1, N r.2]) (fun z M => lst 70 5 z.1 (List.zipWith api_Step.cs r.1 z.2) ::  M) (fun z M => gz api_Step.g r.1 z.2 ::  M) := by
  refine .of func30 rfl ntmps30 rfl fun w0 D0 G0 => ?_
  unfold script_Read at h
  refine .seq <| .reg rfl <| .op0 (OpP.toV (P.asg .k)) rfl <| .op0 (OpP.toV (P.asg .k)) rfl <| .nil <| .then <| .seq <| .reg rfl <| .opp (P.asg .k) rfl <| .nil <| .then <| .seq ?_
  refine .seq <| .reg rfl <| .opp (P.mov .g1) rfl <| .op (V.lnr (n := a0.length) .t0 Mm.m0 map_len runUnderlying68) rfl <| .opp (P.bin .t0 .k .gtr) rfl <| .nil <| .then <| .cond .t0 (fun c1 => ?_) (fun c1 => ?_)
  · rw [if_pos c1] at h
    refine .seq <| .reg rfl <| .opp (P.asg .k) rfl <| .opp (P.asg .k) rfl <| .nil <| .then <| .ret <| .thr ?_
    cases h
    exact .lnil 70 5 <| .gzn (G := api_Step.g) <| .finw ⟨nilSl, []⟩ (.r2 rfl (.tmp .g1) (.tmp .g0)) trivial (Ls.of (.cons .k0 .nil)) (.cons Mm.m0 .nil)
  · rw [if_neg (ne_true_of_eq_false c1)] at h
    refine .skip <| .then <| .seq <| .block <| .lnil 70 5 <| .gzn (G := api_Step.g) ?_
    obtain ⟨o4, ho5, h⟩ := bnd_eq h
    refine .loopW (γ := Value × Value × List Value) (fun (s2 : (List api_Step) × (List UInt8)) z3 => [(4, z3.1), (0, z3.2.1)]) (fun (s2 : (List api_Step) × (List UInt8)) z3 => [lst 70 5 z3.1 (List.zipWith api_Step.cs s2.1 z3.2.2)]) (fun (s2 : (List api_Step) × (List UInt8)) z3 => [gz api_Step.g s2.1 z3.2.2, rows 1 z3.2.1 (s2.2.map (fun x => [B8 x])), rows 1 v00 (a0.map (fun x => [B8 x]))]) ⟨nilSl, v00, []⟩ ho5 (.cons Mm.m0 (.cons Mm.m1 .nil)) (.of (.cons .k0 .nil)) (.cons Mm.m0 (.cons Mm.m1 (.cons Mm.m1 .nil))) (fun n10 s2 z3 hr8 => ?_)
    obtain ⟨ct9, hc6, hn7⟩ := loopK_at hr8
    refine .seq <| .seq <| .reg rfl <| .opp (P.mov .g1) rfl <| .op (V.lnr (n := s2.2.length) .t0 Mm.m1 map_len runUnderlying68) rfl <| .opp (P.bin .t0 .k .gtr) rfl <| .nil <| .then <| .cond .t0 (fun c11 => ?_) (fun c11 => ?_)
    · rw [if_pos c11] at hc6
      refine .skip <| .then <| .block <| .seq <| .reg rfl <| .opp (P.mov .t1) rfl ?_
      obtain ⟨r12, hr13, hc6⟩ := bnd_eq hc6
      refine .opg (G.call call61 (.cons .t0 .nil) (S_script_next z3.2.1 s2.2 r12 hr13) .nil (.cons Mm.m1 .nil) (fun _ _ => rfl) (fun _ _ => rfl) rfl) rfl fun ⟨u14, u15⟩ _ => .opp (P.mov .t0) rfl <| .opp (P.ext (v := Ag (api_Step.cs r12.1 u14)) .g0 rfl) rfl <| .opp (P.ext (v := u15) .g1 rfl) rfl <| .opp (P.ext (v := Bo r12.2.2) .t2 rfl) rfl <| .opx (X.alc (cs := (api_Step.cs ⟨0, 0, 0, 0, []⟩ nilSl)) zeroValue70 rfl) rfl fun b16 => .onel .k1 fun ho17 => .opg (G.str .t3 .g0 .k0 (.mk (cs' := (api_Step.cs r12.1 u14)) sizeOf70 rfl (onez_70 _ ho17) rfl rfl)) rfl fun _ _ => .opp (P.asg .t2) rfl <| .opp (P.asg .t2) rfl <| .nil <| .then ?_
      refine .seq <| .seq <| .reg rfl <| .opp (P.mov .t0) rfl <| .opp (P.not .t0) rfl <| .nil <| .then <| .cond .t0 (fun c18 => ?_) (fun c18 => ?_)
      · rw [if_pos c18] at hc6
        refine .seq <| .reg rfl <| .opp (P.asg .k) rfl <| .opp (P.asg .k) rfl <| .nil <| .then <| .ret <| .thr <| .inr ?_
        obtain ⟨x19, hx20, rfl⟩ := map_rt hc6
        obtain rfl := hn7
        obtain rfl := rt_on h
        refine .thr <| .inr <| .thr ?_
        cases hx20
        exact .lnil 70 5 <| .gzn (G := api_Step.g) <| .finw ⟨nilSl, []⟩ (.r2 rfl (.tmp .g1) (.tmp .g0)) trivial (Ls.of (.cons .k0 .nil)) (.cons Mm.m0 .nil)
      · rw [if_neg (ne_true_of_eq_false c18)] at hc6
        refine .skip <| .then <| .reg rfl <| .opp (P.mov .g2) rfl <| .op (V.ld (v := Ag (api_Step.cs r12.1 u14)) .t2 .k0 (.agg isAgg70 sizeOf70 rfl rfl)) rfl <| .opg (G.bsl (cs := (api_Step.cs r12.1 u14)) .t0 runUnderlying24 sizeOf70 zeroValue70 rfl rfl rfl rfl rfl) rfl fun u21 _ => .gzl Mm.m1 fun hz23 => .frz .k2 <| .gzn (G := api_Step.g) <| .gzc (x := r12.1) (z := u14) Mm.m0 rfl <| .gzo (D := api_Step.cs) Mm.m0 (fun _ _ _ h => rows_one h) (fun x z h => onez_70 x h) fun ho24 => .gza Mm.m3 Mm.m0 ?_
        obtain ⟨hb25, hc6⟩ := grd_eq hc6
        refine .opg (G.app (by_ := 56) .t1 .t0 .k2 (.inr (.inr ⟨_, Mm.m0⟩)) runUnderlying24 runUnderlying24 sizeOf70 typeInfo70 rfl rfl zeroValue70 rfl ho24 (by simpa [zip_len hz23] using hb25) rfl) rfl fun u22 _ => .conseq .k0 (q := lst 70 5 u22 (List.zipWith api_Step.cs (s2.1 ++ ([r12.1] : List api_Step)) (z3.2.2 ++ [u14]))) (fun _ hh => by simpa [zip_app hz23] using hh) <| .opp (P.mov .t1) rfl <| .drop .k2 <| .opp (P.asg .t1) rfl <| .opp (P.asg .t1) rfl <| .nil <| .inn ?_
        cases hc6
        obtain ⟨m26, hm27, hn7⟩ := hn7
        exact .rdW (((s2.1 ++ ([r12.1] : List api_Step)), r12.2.1)) ⟨u22, u15, (z3.2.2 ++ [u14])⟩ hm27 hn7 (.cons Mm.m1 (.cons Mm.m0 .nil)) (.of (.cons .k0 .nil)) (.cons Mm.m0 (.cons Mm.m3 (.cons Mm.m6 .nil)))
    · rw [if_neg (ne_true_of_eq_false c11)] at hc6
      refine .exit <| .thx ?_
      cases hc6
      refine .told (γ := Value × Value × List Value) h hn7 (fun (s2 : (List api_Step) × (List UInt8)) z3 => [(4, z3.1), (0, z3.2.1)]) (fun (s2 : (List api_Step) × (List UInt8)) z3 => [lst 70 5 z3.1 (List.zipWith api_Step.cs s2.1 z3.2.2)]) (fun (s2 : (List api_Step) × (List UInt8)) z3 => [gz api_Step.g s2.1 z3.2.2, rows 1 z3.2.1 (s2.2.map (fun x => [B8 x])), rows 1 v00 (a0.map (fun x => [B8 x]))]) ⟨z3.1, z3.2.1, z3.2.2⟩ (.cons Mm.m0 (.cons Mm.m1 .nil)) (.of (.cons .k0 .nil)) (.cons Mm.m0 (.cons Mm.m1 (.cons Mm.m2 .nil))) (fun s2 z3 h' => ?_)
      replace h := h'
      refine .thx <| .inb <| .then <| .seq <| .seq <| .reg rfl <| .opp (P.mov .g0) rfl <| .gzl Mm.m0 fun hz28 => .op (V.lnl (n := s2.1.length) .t0 .k0 (zip_len hz28) runUnderlying24) rfl <| .opp (P.bin .t0 .k .gtr) rfl <| .nil <| .then ?_
      refine .cond .t0 (fun c29 => ?_) (fun c29 => ?_)
      · rw [if_pos c29] at h
        refine .seq <| .reg rfl <| .opp (P.asg .k) rfl <| .opp (P.asg .k) rfl <| .nil <| .then <| .ret <| .thr ?_
        cases h
        exact .lnil 70 5 <| .gzn (G := api_Step.g) <| .finw ⟨nilSl, []⟩ (.r2 rfl (.tmp .g1) (.tmp .g0)) trivial (Ls.of (.cons .k0 .nil)) (.cons Mm.m0 .nil)
      · rw [if_neg (ne_true_of_eq_false c29)] at h
        refine .skip <| .then <| .seq <| .reg rfl <| .opp (P.mov .t0) rfl <| .opp (P.asg .t0) rfl <| .opp (P.asg .k) rfl <| .nil <| .then <| .ret ?_
        cases h
        exact .finw ⟨z3.1, z3.2.2⟩ (.r2 rfl (.tmp .g1) (.tmp .g0)) trivial (Ls.of (.cons .k0 .nil)) (.cons Mm.m0 .nil)
attribute [irreducible] script_Read
noncomputable def narrowslaw25_alive  : Option (Bool) :=
  Option.bind (script_Put ([(⟨3, (-1), 0, 0, []⟩ : api_Step)] : List api_Step)) fun r2 => Option.bind (script_Read r2.1) fun r5 => Option.bind (if (decide (r2.2 = 0)) = true then (if (decide (r5.2 = 0)) = true then (if (decide ((r2.1.length : Int) = 9)) = true then (if (decide ((r5.1.length : Int) = 1)) = true then (Option.bind (at_ r5.1 0) fun (x20 : api_Step) => some (decide (x20.A = (-1)))) else (some false)) else (some false)) else (some false)) else (some false)) fun (y9 : Bool) => some y9
set_option maxRecDepth 20000 in
set_option maxHeartbeats 8000000 in
theorem S_narrowslaw25_alive  (r : Bool) (h : narrowslaw25_alive  = some r) :
    SpecF Tryz.prog 27 [] [] [] (fun z : Unit => True) (fun z => Bo r) (fun z M =>  M) (fun z M =>  M) := by
  refine .of func27 rfl ntmps27 rfl fun w0 D0 G0 => ?_
  unfold narrowslaw25_alive at h
  refine .seq <| .reg rfl <| .op0 (OpP.toV (P.asg .k)) rfl <| .nil <| .then <| .seq <| .reg rfl <| .opp (P.bld (v := Ag (api_Step.cs ⟨3, (-1), 0, 0, []⟩ nilSl)) (.cons .k (.cons .k .nil)) (bld_run zeroValue70 runUnderlying70 pl_70 (by kernel_rfl))) rfl <| .opg (G.bsl (cs := (api_Step.cs (⟨3, (-1), 0, 0, []⟩ : api_Step) nilSl)) .t0 runUnderlying24 sizeOf70 zeroValue70 rfl rfl rfl rfl rfl) rfl fun u1 _ => .frz .k0 <| .rnil0 1 <| .gzn (G := api_Step.g) ?_
  refine .gzc (x := (⟨3, (-1), 0, 0, []⟩ : api_Step)) (z := nilSl) Mm.m0 rfl ?_
  obtain ⟨r2, hr3, h⟩ := bnd_eq h
  refine .opg (G.call call28 (.cons .t0 .nil) (S_script_Put u1 ([(⟨3, (-1), 0, 0, []⟩ : api_Step)] : List api_Step) ([nilSl]) r2 hr3) .nil (.cons Mm.m2 (.cons Mm.m0 .nil)) (fun _ _ => rfl) (fun _ _ => rfl) rfl) rfl fun u4 _ => .opp (P.mov .t0) rfl <| .opp (P.ext (v := u4) .g0 rfl) rfl <| .opp (P.ext (v := N r2.2) .t1 rfl) rfl <| .opp (P.asg .t1) rfl <| .opp (P.asg .t1) rfl <| .nil <| .then <| .seq <| .reg rfl <| .opp (P.mov .g1) rfl <| .frz .k0 ?_
  obtain ⟨r5, hr6, h⟩ := bnd_eq h
  refine .opg (G.call call30 (.cons .t0 .nil) (S_script_Read u4 r2.1 r5 hr6) .nil (.cons Mm.m0 .nil) (fun _ _ => rfl) (fun _ _ => rfl) rfl) rfl fun ⟨u7, w8⟩ _ => .opp (P.mov .t0) rfl <| .opp (P.ext (v := u7) .g0 rfl) rfl <| .opp (P.ext (v := N r5.2) .t1 rfl) rfl <| .opp (P.asg .t1) rfl <| .opp (P.asg .t1) rfl <| .nil <| .then ?_
  obtain ⟨y9, hj11, h⟩ := bnd_eq h
  refine .cutx (γ := Unit) (E1 := fun z10 => [(0, Bo y9)]) (L1 := fun z10 => []) (R1 := fun z10 => []) ?_ (fun z10 => ?_)
  · clear h
    refine .reg rfl <| .opp (P.mov .t2) rfl <| .opp (P.bin .t0 .k .eql) rfl <| .opp (P.mov .t0) rfl <| .split .k0 (fun c12 => ?_) (fun c12 => ?_)
    · rw [if_pos c12] at hj11
      refine .gyes rfl .g0 <| .opp (P.mov .t1) rfl <| .gyes rfl .g1 <| .opp (P.bin .t0 .k .eql) rfl <| .opp (P.pickT .t1 .t0) rfl <| .opp (P.mov .t0) rfl <| .split .k0 (fun c13 => ?_) (fun c13 => ?_)
      · rw [if_pos c13] at hj11
        refine .gyes rfl .g0 <| .opp (P.mov .t2) rfl <| .gyes rfl .g1 <| .op (V.lnr (n := r2.1.length) .t0 Mm.m1 map_len runUnderlying68) rfl <| .gyes rfl .g1 <| .opp (P.bin .t0 .k .eql) rfl <| .opp (P.pickT .t1 .t0) rfl <| .opp (P.mov .t0) rfl <| .split .k0 (fun c14 => ?_) (fun c14 => ?_)
        · rw [if_pos c14] at hj11
          refine .gyes rfl .g0 <| .opp (P.mov .g1) rfl <| .gyes rfl .g1 <| .gzl Mm.m0 fun hz15 => .op (V.lnl (n := r5.1.length) .t0 .k0 (zip_len hz15) runUnderlying24) rfl <| .gyes rfl .g1 <| .opp (P.bin .t0 .k .eql) rfl <| .opp (P.pickT .t1 .t0) rfl <| .opp (P.mov .t0) rfl <| .split .k0 (fun c16 => ?_) (fun c16 => ?_)
          · rw [if_pos c16] at hj11
            refine .gyes rfl .g0 <| .opp (P.mov .t1) rfl <| .gyes rfl .g1 ?_
            obtain ⟨x20, hx21, hj11⟩ := bnd_eq hj11
            obtain ⟨i22, hi23, hx21⟩ := at_eq hx21
            refine .gzl Mm.m0 fun hz24 => .gzx (D := api_Step.cs) (q := fun z_ => rows 1 z_ (x20.Data.map (fun x => [B8 x]))) Mm.m0 hx21 (fun _ => rfl) fun u25 hz27 hx26 => ?_
            have hi23_ : (0 : Int).toNat = i22 := by rw [hi23]; rfl
            refine .ixql .k0 hx26 fun p17 q18 hq19 => .opp (P.ixi (i := i22) .k hi23 .t0 hq19 runUnderlying24 sizeOf70) rfl <| .gyes rfl .g1 <| .opp (P.fa (off' := q18 + 1) .t0 fa_70_1 rfl) rfl <| .gyes rfl .g1 <| .op (V.ldxl (u := N x20.A) (off := q18) (k := 1) .t0 hq19 .k0 hx26 (.one isAgg3 rfl)) rfl <| .gyes rfl .g1 <| .opp (P.bin .t0 .k .eql) rfl <| .opp (P.pickT .t1 .t0) rfl <| .opp (P.asg .t0) rfl <| .nil ?_
            cases hj11
            exact .stj () (.cons Mm.m0 .nil) (.of .nil) .nil
          · rw [if_neg (ne_true_of_eq_false c16)] at hj11
            refine .gno rfl .g0 rfl rfl <| .gno rfl .g0 rfl rfl <| .gno rfl .g0 rfl rfl <| .gno rfl .g0 rfl rfl <| .gno rfl .g0 rfl rfl <| .opp (P.pickF .t0 .k) rfl <| .opp (P.asg .t0) rfl <| .nil ?_
            cases hj11
            exact .stj () (.cons Mm.m0 .nil) (.of .nil) .nil
        · rw [if_neg (ne_true_of_eq_false c14)] at hj11
          refine .gno rfl .g0 rfl rfl <| .gno rfl .g0 rfl rfl <| .gno rfl .g0 rfl rfl <| .opp (P.pickF .t0 .k) rfl <| .opp (P.mov .t0) rfl <| .gno rfl .g0 rfl rfl <| .gno rfl .g0 rfl rfl <| .gno rfl .g0 rfl rfl <| .gno rfl .g0 rfl rfl <| .gno rfl .g0 rfl rfl <| .opp (P.pickF .t0 .k) rfl <| .opp (P.asg .t0) rfl ?_
          refine .nil ?_
          cases hj11
          exact .stj () (.cons Mm.m0 .nil) (.of .nil) .nil
      · rw [if_neg (ne_true_of_eq_false c13)] at hj11
        refine .gno rfl .g0 rfl rfl <| .gno rfl .g0 rfl rfl <| .gno rfl .g0 rfl rfl <| .opp (P.pickF .t0 .k) rfl <| .opp (P.mov .t0) rfl <| .gno rfl .g0 rfl rfl <| .gno rfl .g0 rfl rfl <| .gno rfl .g0 rfl rfl <| .opp (P.pickF .t0 .k) rfl <| .opp (P.mov .t0) rfl <| .gno rfl .g0 rfl rfl <| .gno rfl .g0 rfl rfl ?_
        refine .gno rfl .g0 rfl rfl <| .gno rfl .g0 rfl rfl <| .gno rfl .g0 rfl rfl <| .opp (P.pickF .t0 .k) rfl <| .opp (P.asg .t0) rfl <| .nil ?_
        cases hj11
        exact .stj () (.cons Mm.m0 .nil) (.of .nil) .nil
    · rw [if_neg (ne_true_of_eq_false c12)] at hj11
      refine .gno rfl .g0 rfl rfl <| .gno rfl .g0 rfl rfl <| .opp (P.pickF .t0 .k) rfl <| .opp (P.mov .t0) rfl <| .gno rfl .g0 rfl rfl <| .gno rfl .g0 rfl rfl <| .gno rfl .g0 rfl rfl <| .opp (P.pickF .t0 .k) rfl <| .opp (P.mov .t0) rfl <| .gno rfl .g0 rfl rfl <| .gno rfl .g0 rfl rfl <| .gno rfl .g0 rfl rfl ?_
      refine .opp (P.pickF .t0 .k) rfl <| .opp (P.mov .t0) rfl <| .gno rfl .g0 rfl rfl <| .gno rfl .g0 rfl rfl <| .gno rfl .g0 rfl rfl <| .gno rfl .g0 rfl rfl <| .gno rfl .g0 rfl rfl <| .opp (P.pickF .t0 .k) rfl <| .opp (P.asg .t0) rfl <| .nil ?_
      cases hj11
      exact .stj () (.cons Mm.m0 .nil) (.of .nil) .nil
  · clear hj11
    refine .ret ?_
    cases h
    exact .finw () (.r1 rfl (.tmp .g0)) trivial (Ls.of .nil) .nil
attribute [irreducible] narrowslaw25_alive
noncomputable def wide_Of (a0 : UInt64) : api_Wide :=
  ⟨a0, 0, 0, 0⟩
set_option maxRecDepth 20000 in
set_option maxHeartbeats 8000000 in
theorem S_wide_Of (a0 : UInt64) (r : api_Wide) (h : wide_Of a0 = r) :
    SpecF Tryz.prog 71 [U a0] [] [] (fun z : Unit => True) (fun z => Ag (api_Wide.cs r)) (fun z M =>  M) (fun z M =>  M) := by
  refine .of func71 rfl ntmps71 rfl fun w0 D0 G0 => ?_
  unfold wide_Of at h
  refine .seq <| .reg rfl <| .opx (X.alc (cs := (api_Wide.cs ⟨0, 0, 0, 0⟩)) zeroValue36 rfl) rfl fun b1 => .nil <| .then <| .seq <| .reg rfl <| .opp (P.mov .t1) rfl <| .opp (P.bld (v := Ag (api_Wide.cs ⟨a0, 0, 0, 0⟩)) (.cons .t0 .nil) (bld_runA zeroValue36 runUnderlying36 sizeOf34 (by kernel_rfl))) rfl <| .opg (G.str .t0 .g0 .k0 (.mk (cs' := (api_Wide.cs ⟨a0, 0, 0, 0⟩)) sizeOf36 rfl rfl rfl rfl)) rfl fun _ _ => .nil <| .then ?_
  refine .ret ?_
  subst h
  exact .finw () (.r1 rfl (.cell .g0 .k0 (.agg isAgg36 sizeOf36 rfl rfl))) trivial (Ls.of .nil) .nil
attribute [irreducible] wide_Of
noncomputable def purse_Even (a0 : UInt64) : purse_Book :=
  ⟨⟨(wide_Of a0), (wide_Of a0)⟩, ⟨(wide_Of a0), (wide_Of a0)⟩, ⟨(wide_Of a0), (wide_Of a0)⟩, ⟨(wide_Of a0), (wide_Of a0)⟩, ⟨(wide_Of a0), (wide_Of a0)⟩, ⟨(wide_Of a0), (wide_Of a0)⟩, ⟨(wide_Of a0), (wide_Of a0)⟩, ⟨(wide_Of a0), (wide_Of a0)⟩⟩
set_option maxRecDepth 20000 in
set_option maxHeartbeats 8000000 in
theorem S_purse_Even (a0 : UInt64) (r : purse_Book) (h : purse_Even a0 = r) :
    SpecF Tryz.prog 106 [U a0] [] [] (fun z : Unit => True) (fun z => Ag (purse_Book.cs r)) (fun z M =>  M) (fun z M =>  M) := by
  refine .of func106 rfl ntmps106 rfl fun w0 D0 G0 => ?_
  unfold purse_Even at h
  refine .seq <| .reg rfl <| .opx (X.alc (cs := (purse_Book.cs ⟨⟨⟨0, 0, 0, 0⟩, ⟨0, 0, 0, 0⟩⟩, ⟨⟨0, 0, 0, 0⟩, ⟨0, 0, 0, 0⟩⟩, ⟨⟨0, 0, 0, 0⟩, ⟨0, 0, 0, 0⟩⟩, ⟨⟨0, 0, 0, 0⟩, ⟨0, 0, 0, 0⟩⟩, ⟨⟨0, 0, 0, 0⟩, ⟨0, 0, 0, 0⟩⟩, ⟨⟨0, 0, 0, 0⟩, ⟨0, 0, 0, 0⟩⟩, ⟨⟨0, 0, 0, 0⟩, ⟨0, 0, 0, 0⟩⟩, ⟨⟨0, 0, 0, 0⟩, ⟨0, 0, 0, 0⟩⟩⟩)) zeroValue60 rfl) rfl fun b1 => .nil <| .then <| .seq <| .reg rfl <| .opx (X.alc (cs := (purse_Book.cs ⟨⟨⟨0, 0, 0, 0⟩, ⟨0, 0, 0, 0⟩⟩, ⟨⟨0, 0, 0, 0⟩, ⟨0, 0, 0, 0⟩⟩, ⟨⟨0, 0, 0, 0⟩, ⟨0, 0, 0, 0⟩⟩, ⟨⟨0, 0, 0, 0⟩, ⟨0, 0, 0, 0⟩⟩, ⟨⟨0, 0, 0, 0⟩, ⟨0, 0, 0, 0⟩⟩, ⟨⟨0, 0, 0, 0⟩, ⟨0, 0, 0, 0⟩⟩, ⟨⟨0, 0, 0, 0⟩, ⟨0, 0, 0, 0⟩⟩, ⟨⟨0, 0, 0, 0⟩, ⟨0, 0, 0, 0⟩⟩⟩)) zeroValue60 rfl) rfl fun b2 => .nil <| .then <| .seq <| .seq ?_
  refine .reg rfl <| .opp (P.mov .k) rfl <| .nil <| .then <| .block <| .rounds 9 <| .rd <| .seq <| .reg rfl <| .opp (P.bin (v := Bo true) .g0 .k (BinV.lss.boolc (by decide))) rfl <| .nil <| .then ?_
  refine .seq <| .condT .t0 <| .skip <| .then <| .seq <| .block <| .seq <| .reg rfl <| .opp (P.mov .g0) rfl <| .opp (P.asg .t0) rfl <| .nil <| .then ?_
  refine .seq <| .reg rfl <| .opp (P.mov .k) rfl <| .nil <| .then <| .block <| .rounds 3 <| .rd <| .seq <| .reg rfl <| .opp (P.bin (v := Bo true) .g0 .k (BinV.lss.boolc (by decide))) rfl <| .nil ?_
  refine .then <| .seq <| .condT .t0 <| .skip <| .then <| .seq <| .block <| .seq <| .reg rfl <| .opp (P.mov .g0) rfl <| .opp (P.asg .t0) rfl <| .nil ?_
  refine .then <| .drawl [blk b1 60 (purse_Book.cs ⟨⟨⟨0, 0, 0, 0⟩, ⟨0, 0, 0, 0⟩⟩, ⟨⟨0, 0, 0, 0⟩, ⟨0, 0, 0, 0⟩⟩, ⟨⟨0, 0, 0, 0⟩, ⟨0, 0, 0, 0⟩⟩, ⟨⟨0, 0, 0, 0⟩, ⟨0, 0, 0, 0⟩⟩, ⟨⟨0, 0, 0, 0⟩, ⟨0, 0, 0, 0⟩⟩, ⟨⟨0, 0, 0, 0⟩, ⟨0, 0, 0, 0⟩⟩, ⟨⟨0, 0, 0, 0⟩, ⟨0, 0, 0, 0⟩⟩, ⟨⟨0, 0, 0, 0⟩, ⟨0, 0, 0, 0⟩⟩⟩)] [] (Ls.of (.cons .k1 .nil)) Rs.nil 7 (.on 0 .pu (.on 1 .pu (.on 2 .pu (.on 4 .pu (.on 3 .go (.on 5 .pu (.on 6 .go .nl))))))) follows_mixed (.inb (.thn (.thn (.inb (.inb (.thn (.thn (.inb (.thn .body))))))))) (by kernel_rfl) <| .dpu rfl (.n rfl) (P.mov .g2) rfl rfl <| .dpu rfl (.n rfl) (P.mov .t1) rfl rfl <| .dpu rfl (.n rfl) (P.mov .g7) rfl rfl <| .dpu rfl (.n rfl) (P.iac (i := 0) .t2 rfl .g5 runUnderlying60 sizeOf58 rfl rfl) rfl rfl <| .dgo rfl (.n rfl) (G.call call71 (.cons .t1 .nil) (S_wide_Of a0 _ rfl) .nil .nil (fun _ _ => rfl) (fun _ _ => rfl) rfl) (.inr fun _ _ _ h => (h.imp (Ls.of (.cons .k1 .nil))).ro Rs.nil) fun _ _ => .dpu rfl (.n rfl) (P.iac (i := 0) .t2 rfl .t1 runUnderlying58 sizeOf36 rfl rfl) rfl rfl <| .dgo rfl (.n rfl) (G.str .t1 .t0 .k0 (.mk (cs' := (purse_Book.cs ⟨⟨(wide_Of a0), ⟨0, 0, 0, 0⟩⟩, ⟨⟨0, 0, 0, 0⟩, ⟨0, 0, 0, 0⟩⟩, ⟨⟨0, 0, 0, 0⟩, ⟨0, 0, 0, 0⟩⟩, ⟨⟨0, 0, 0, 0⟩, ⟨0, 0, 0, 0⟩⟩, ⟨⟨0, 0, 0, 0⟩, ⟨0, 0, 0, 0⟩⟩, ⟨⟨0, 0, 0, 0⟩, ⟨0, 0, 0, 0⟩⟩, ⟨⟨0, 0, 0, 0⟩, ⟨0, 0, 0, 0⟩⟩, ⟨⟨0, 0, 0, 0⟩, ⟨0, 0, 0, 0⟩⟩⟩)) sizeOf36 rfl rfl rfl rfl)) (.inr fun _ _ _ h => (h.imp (Ls.of (.cons .k1 .nil))).ro Rs.nil) fun _ _ => .dnil <| .inn <| .then ?_
  refine .reg rfl <| .opp (P.bin (v := N 1) .g0 .k (.addc (by decide))) rfl <| .drop .k1 <| .opp (P.mov .t0) rfl <| .nil <| .then <| .rd <| .seq <| .reg rfl <| .opp (P.bin (v := Bo true) .g0 .k (BinV.lss.boolc (by decide))) rfl <| .nil <| .then ?_
  refine .seq <| .condT .t0 <| .skip <| .then <| .seq <| .block <| .seq <| .reg rfl <| .opp (P.mov .g0) rfl <| .opp (P.asg .t0) rfl <| .nil <| .then ?_
  refine .drawl [blk b1 60 (purse_Book.cs ⟨⟨⟨0, 0, 0, 0⟩, ⟨0, 0, 0, 0⟩⟩, ⟨⟨0, 0, 0, 0⟩, ⟨0, 0, 0, 0⟩⟩, ⟨⟨0, 0, 0, 0⟩, ⟨0, 0, 0, 0⟩⟩, ⟨⟨0, 0, 0, 0⟩, ⟨0, 0, 0, 0⟩⟩, ⟨⟨0, 0, 0, 0⟩, ⟨0, 0, 0, 0⟩⟩, ⟨⟨0, 0, 0, 0⟩, ⟨0, 0, 0, 0⟩⟩, ⟨⟨0, 0, 0, 0⟩, ⟨0, 0, 0, 0⟩⟩, ⟨⟨0, 0, 0, 0⟩, ⟨0, 0, 0, 0⟩⟩⟩)] [] (Ls.of (.cons .k1 .nil)) Rs.nil 7 (.on 0 .pu (.on 1 .pu (.on 2 .pu (.on 4 .pu (.on 3 .go (.on 5 .pu (.on 6 .go .nl))))))) follows_mixed (.inb (.thn (.thn (.inb (.inb (.thn (.thn (.inb (.thn .body))))))))) (by kernel_rfl) <| .dpu rfl (.n rfl) (P.mov .g2) rfl rfl <| .dpu rfl (.n rfl) (P.mov .t1) rfl rfl <| .dpu rfl (.n rfl) (P.mov .g7) rfl rfl <| .dpu rfl (.n rfl) (P.iac (i := 0) .t2 rfl .g5 runUnderlying60 sizeOf58 rfl rfl) rfl rfl <| .dgo rfl (.n rfl) (G.call call71 (.cons .t1 .nil) (S_wide_Of a0 _ rfl) .nil .nil (fun _ _ => rfl) (fun _ _ => rfl) rfl) (.inr fun _ _ _ h => (h.imp (Ls.of (.cons .k1 .nil))).ro Rs.nil) fun _ _ => .dpu rfl (.n rfl) (P.iac (i := 1) .t2 rfl .t1 runUnderlying58 sizeOf36 rfl rfl) rfl rfl <| .dgo rfl (.n rfl) (G.str .t1 .t0 .k0 (.mk (cs' := (purse_Book.cs ⟨⟨(wide_Of a0), (wide_Of a0)⟩, ⟨⟨0, 0, 0, 0⟩, ⟨0, 0, 0, 0⟩⟩, ⟨⟨0, 0, 0, 0⟩, ⟨0, 0, 0, 0⟩⟩, ⟨⟨0, 0, 0, 0⟩, ⟨0, 0, 0, 0⟩⟩, ⟨⟨0, 0, 0, 0⟩, ⟨0, 0, 0, 0⟩⟩, ⟨⟨0, 0, 0, 0⟩, ⟨0, 0, 0, 0⟩⟩, ⟨⟨0, 0, 0, 0⟩, ⟨0, 0, 0, 0⟩⟩, ⟨⟨0, 0, 0, 0⟩, ⟨0, 0, 0, 0⟩⟩⟩)) sizeOf36 rfl rfl rfl rfl)) (.inr fun _ _ _ h => (h.imp (Ls.of (.cons .k1 .nil))).ro Rs.nil) fun _ _ => .dnil <| .inn <| .then <| .reg rfl ?_
  refine .opp (P.bin (v := N 2) .g0 .k (.addc (by decide))) rfl <| .drop .k1 <| .opp (P.mov .t0) rfl <| .nil <| .then <| .rd <| .seq <| .reg rfl <| .opp (P.bin (v := Bo false) .g0 .k (BinV.lss.boolc (by decide))) rfl <| .nil <| .then <| .seq ?_
  refine .condF .t0 <| .exit <| .thx <| .thx <| .inb <| .inn <| .then <| .reg rfl <| .opp (P.bin (v := N 1) .g2 .k (.addc (by decide))) rfl <| .drop .k3 <| .opp (P.mov .t0) rfl <| .nil ?_
  refine .then <| .rd <| .seq <| .reg rfl <| .opp (P.bin (v := Bo true) .g0 .k (BinV.lss.boolc (by decide))) rfl <| .nil <| .then <| .seq <| .condT .t0 <| .skip <| .then <| .seq ?_
  refine .block <| .seq <| .reg rfl <| .opp (P.mov .g0) rfl <| .drop .k3 <| .opp (P.asg .t0) rfl <| .nil <| .then <| .seq <| .reg rfl <| .drop .k2 <| .opp (P.mov .k) rfl ?_
  refine .nil <| .then <| .block <| .rounds 3 <| .rd <| .seq <| .reg rfl <| .opp (P.bin (v := Bo true) .g0 .k (BinV.lss.boolc (by decide))) rfl <| .nil <| .then <| .seq <| .condT .t0 ?_
  refine .skip <| .then <| .seq <| .block <| .seq <| .reg rfl <| .opp (P.mov .g0) rfl <| .opp (P.asg .t0) rfl <| .nil <| .then <| .drawl [blk b1 60 (purse_Book.cs ⟨⟨⟨0, 0, 0, 0⟩, ⟨0, 0, 0, 0⟩⟩, ⟨⟨0, 0, 0, 0⟩, ⟨0, 0, 0, 0⟩⟩, ⟨⟨0, 0, 0, 0⟩, ⟨0, 0, 0, 0⟩⟩, ⟨⟨0, 0, 0, 0⟩, ⟨0, 0, 0, 0⟩⟩, ⟨⟨0, 0, 0, 0⟩, ⟨0, 0, 0, 0⟩⟩, ⟨⟨0, 0, 0, 0⟩, ⟨0, 0, 0, 0⟩⟩, ⟨⟨0, 0, 0, 0⟩, ⟨0, 0, 0, 0⟩⟩, ⟨⟨0, 0, 0, 0⟩, ⟨0, 0, 0, 0⟩⟩⟩)] [] (Ls.of (.cons .k1 .nil)) Rs.nil 7 (.on 0 .pu (.on 1 .pu (.on 2 .pu (.on 4 .pu (.on 3 .go (.on 5 .pu (.on 6 .go .nl))))))) follows_mixed (.inb (.thn (.thn (.inb (.inb (.thn (.thn (.inb (.thn .body))))))))) (by kernel_rfl) <| .dpu rfl (.n rfl) (P.mov .g2) rfl rfl ?_
  refine .dpu rfl (.n rfl) (P.mov .t1) rfl rfl <| .dpu rfl (.n rfl) (P.mov .g7) rfl rfl <| .dpu rfl (.n rfl) (P.iac (i := 1) .t2 rfl .g5 runUnderlying60 sizeOf58 rfl rfl) rfl rfl <| .dgo rfl (.n rfl) (G.call call71 (.cons .t1 .nil) (S_wide_Of a0 _ rfl) .nil .nil (fun _ _ => rfl) (fun _ _ => rfl) rfl) (.inr fun _ _ _ h => (h.imp (Ls.of (.cons .k1 .nil))).ro Rs.nil) fun _ _ => .dpu rfl (.n rfl) (P.iac (i := 0) .t2 rfl .t1 runUnderlying58 sizeOf36 rfl rfl) rfl rfl <| .dgo rfl (.n rfl) (G.str .t1 .t0 .k0 (.mk (cs' := (purse_Book.cs ⟨⟨(wide_Of a0), (wide_Of a0)⟩, ⟨(wide_Of a0), ⟨0, 0, 0, 0⟩⟩, ⟨⟨0, 0, 0, 0⟩, ⟨0, 0, 0, 0⟩⟩, ⟨⟨0, 0, 0, 0⟩, ⟨0, 0, 0, 0⟩⟩, ⟨⟨0, 0, 0, 0⟩, ⟨0, 0, 0, 0⟩⟩, ⟨⟨0, 0, 0, 0⟩, ⟨0, 0, 0, 0⟩⟩, ⟨⟨0, 0, 0, 0⟩, ⟨0, 0, 0, 0⟩⟩, ⟨⟨0, 0, 0, 0⟩, ⟨0, 0, 0, 0⟩⟩⟩)) sizeOf36 rfl rfl rfl rfl)) (.inr fun _ _ _ h => (h.imp (Ls.of (.cons .k1 .nil))).ro Rs.nil) fun _ _ => .dnil <| .inn <| .then <| .reg rfl <| .opp (P.bin (v := N 1) .g0 .k (.addc (by decide))) rfl <| .drop .k1 ?_
  refine .opp (P.mov .t0) rfl <| .nil <| .then <| .rd <| .seq <| .reg rfl <| .opp (P.bin (v := Bo true) .g0 .k (BinV.lss.boolc (by decide))) rfl <| .nil <| .then <| .seq <| .condT .t0 <| .skip ?_
  refine .then <| .seq <| .block <| .seq <| .reg rfl <| .opp (P.mov .g0) rfl <| .opp (P.asg .t0) rfl <| .nil <| .then <| .drawl [blk b1 60 (purse_Book.cs ⟨⟨⟨0, 0, 0, 0⟩, ⟨0, 0, 0, 0⟩⟩, ⟨⟨0, 0, 0, 0⟩, ⟨0, 0, 0, 0⟩⟩, ⟨⟨0, 0, 0, 0⟩, ⟨0, 0, 0, 0⟩⟩, ⟨⟨0, 0, 0, 0⟩, ⟨0, 0, 0, 0⟩⟩, ⟨⟨0, 0, 0, 0⟩, ⟨0, 0, 0, 0⟩⟩, ⟨⟨0, 0, 0, 0⟩, ⟨0, 0, 0, 0⟩⟩, ⟨⟨0, 0, 0, 0⟩, ⟨0, 0, 0, 0⟩⟩, ⟨⟨0, 0, 0, 0⟩, ⟨0, 0, 0, 0⟩⟩⟩)] [] (Ls.of (.cons .k1 .nil)) Rs.nil 7 (.on 0 .pu (.on 1 .pu (.on 2 .pu (.on 4 .pu (.on 3 .go (.on 5 .pu (.on 6 .go .nl))))))) follows_mixed (.inb (.thn (.thn (.inb (.inb (.thn (.thn (.inb (.thn .body))))))))) (by kernel_rfl) <| .dpu rfl (.n rfl) (P.mov .g2) rfl rfl <| .dpu rfl (.n rfl) (P.mov .t1) rfl rfl ?_
  refine .dpu rfl (.n rfl) (P.mov .g7) rfl rfl <| .dpu rfl (.n rfl) (P.iac (i := 1) .t2 rfl .g5 runUnderlying60 sizeOf58 rfl rfl) rfl rfl <| .dgo rfl (.n rfl) (G.call call71 (.cons .t1 .nil) (S_wide_Of a0 _ rfl) .nil .nil (fun _ _ => rfl) (fun _ _ => rfl) rfl) (.inr fun _ _ _ h => (h.imp (Ls.of (.cons .k1 .nil))).ro Rs.nil) fun _ _ => .dpu rfl (.n rfl) (P.iac (i := 1) .t2 rfl .t1 runUnderlying58 sizeOf36 rfl rfl) rfl rfl <| .dgo rfl (.n rfl) (G.str .t1 .t0 .k0 (.mk (cs' := (purse_Book.cs ⟨⟨(wide_Of a0), (wide_Of a0)⟩, ⟨(wide_Of a0), (wide_Of a0)⟩, ⟨⟨0, 0, 0, 0⟩, ⟨0, 0, 0, 0⟩⟩, ⟨⟨0, 0, 0, 0⟩, ⟨0, 0, 0, 0⟩⟩, ⟨⟨0, 0, 0, 0⟩, ⟨0, 0, 0, 0⟩⟩, ⟨⟨0, 0, 0, 0⟩, ⟨0, 0, 0, 0⟩⟩, ⟨⟨0, 0, 0, 0⟩, ⟨0, 0, 0, 0⟩⟩, ⟨⟨0, 0, 0, 0⟩, ⟨0, 0, 0, 0⟩⟩⟩)) sizeOf36 rfl rfl rfl rfl)) (.inr fun _ _ _ h => (h.imp (Ls.of (.cons .k1 .nil))).ro Rs.nil) fun _ _ => .dnil <| .inn <| .then <| .reg rfl <| .opp (P.bin (v := N 2) .g0 .k (.addc (by decide))) rfl <| .drop .k1 <| .opp (P.mov .t0) rfl ?_
  refine .nil <| .then <| .rd <| .seq <| .reg rfl <| .opp (P.bin (v := Bo false) .g0 .k (BinV.lss.boolc (by decide))) rfl <| .nil <| .then <| .seq <| .condF .t0 <| .exit <| .thx ?_
  refine .thx <| .inb <| .inn <| .then <| .reg rfl <| .opp (P.bin (v := N 2) .g2 .k (.addc (by decide))) rfl <| .drop .k3 <| .opp (P.mov .t0) rfl <| .nil <| .then <| .rd <| .seq ?_
  refine .reg rfl <| .opp (P.bin (v := Bo true) .g0 .k (BinV.lss.boolc (by decide))) rfl <| .nil <| .then <| .seq <| .condT .t0 <| .skip <| .then <| .seq <| .block <| .seq <| .reg rfl ?_
  refine .opp (P.mov .g0) rfl <| .drop .k3 <| .opp (P.asg .t0) rfl <| .nil <| .then <| .seq <| .reg rfl <| .drop .k2 <| .opp (P.mov .k) rfl <| .nil <| .then <| .block ?_
  refine .rounds 3 <| .rd <| .seq <| .reg rfl <| .opp (P.bin (v := Bo true) .g0 .k (BinV.lss.boolc (by decide))) rfl <| .nil <| .then <| .seq <| .condT .t0 <| .skip <| .then <| .seq ?_
  refine .block <| .seq <| .reg rfl <| .opp (P.mov .g0) rfl <| .opp (P.asg .t0) rfl <| .nil <| .then <| .drawl [blk b1 60 (purse_Book.cs ⟨⟨⟨0, 0, 0, 0⟩, ⟨0, 0, 0, 0⟩⟩, ⟨⟨0, 0, 0, 0⟩, ⟨0, 0, 0, 0⟩⟩, ⟨⟨0, 0, 0, 0⟩, ⟨0, 0, 0, 0⟩⟩, ⟨⟨0, 0, 0, 0⟩, ⟨0, 0, 0, 0⟩⟩, ⟨⟨0, 0, 0, 0⟩, ⟨0, 0, 0, 0⟩⟩, ⟨⟨0, 0, 0, 0⟩, ⟨0, 0, 0, 0⟩⟩, ⟨⟨0, 0, 0, 0⟩, ⟨0, 0, 0, 0⟩⟩, ⟨⟨0, 0, 0, 0⟩, ⟨0, 0, 0, 0⟩⟩⟩)] [] (Ls.of (.cons .k1 .nil)) Rs.nil 7 (.on 0 .pu (.on 1 .pu (.on 2 .pu (.on 4 .pu (.on 3 .go (.on 5 .pu (.on 6 .go .nl))))))) follows_mixed (.inb (.thn (.thn (.inb (.inb (.thn (.thn (.inb (.thn .body))))))))) (by kernel_rfl) <| .dpu rfl (.n rfl) (P.mov .g2) rfl rfl <| .dpu rfl (.n rfl) (P.mov .t1) rfl rfl <| .dpu rfl (.n rfl) (P.mov .g7) rfl rfl <| .dpu rfl (.n rfl) (P.iac (i := 2) .t2 rfl .g5 runUnderlying60 sizeOf58 rfl rfl) rfl rfl ?_
  refine .dgo rfl (.n rfl) (G.call call71 (.cons .t1 .nil) (S_wide_Of a0 _ rfl) .nil .nil (fun _ _ => rfl) (fun _ _ => rfl) rfl) (.inr fun _ _ _ h => (h.imp (Ls.of (.cons .k1 .nil))).ro Rs.nil) fun _ _ => .dpu rfl (.n rfl) (P.iac (i := 0) .t2 rfl .t1 runUnderlying58 sizeOf36 rfl rfl) rfl rfl <| .dgo rfl (.n rfl) (G.str .t1 .t0 .k0 (.mk (cs' := (purse_Book.cs ⟨⟨(wide_Of a0), (wide_Of a0)⟩, ⟨(wide_Of a0), (wide_Of a0)⟩, ⟨(wide_Of a0), ⟨0, 0, 0, 0⟩⟩, ⟨⟨0, 0, 0, 0⟩, ⟨0, 0, 0, 0⟩⟩, ⟨⟨0, 0, 0, 0⟩, ⟨0, 0, 0, 0⟩⟩, ⟨⟨0, 0, 0, 0⟩, ⟨0, 0, 0, 0⟩⟩, ⟨⟨0, 0, 0, 0⟩, ⟨0, 0, 0, 0⟩⟩, ⟨⟨0, 0, 0, 0⟩, ⟨0, 0, 0, 0⟩⟩⟩)) sizeOf36 rfl rfl rfl rfl)) (.inr fun _ _ _ h => (h.imp (Ls.of (.cons .k1 .nil))).ro Rs.nil) fun _ _ => .dnil <| .inn <| .then <| .reg rfl <| .opp (P.bin (v := N 1) .g0 .k (.addc (by decide))) rfl <| .drop .k1 <| .opp (P.mov .t0) rfl <| .nil <| .then ?_
  refine .rd <| .seq <| .reg rfl <| .opp (P.bin (v := Bo true) .g0 .k (BinV.lss.boolc (by decide))) rfl <| .nil <| .then <| .seq <| .condT .t0 <| .skip <| .then <| .seq <| .block ?_
  refine .seq <| .reg rfl <| .opp (P.mov .g0) rfl <| .opp (P.asg .t0) rfl <| .nil <| .then <| .drawl [blk b1 60 (purse_Book.cs ⟨⟨⟨0, 0, 0, 0⟩, ⟨0, 0, 0, 0⟩⟩, ⟨⟨0, 0, 0, 0⟩, ⟨0, 0, 0, 0⟩⟩, ⟨⟨0, 0, 0, 0⟩, ⟨0, 0, 0, 0⟩⟩, ⟨⟨0, 0, 0, 0⟩, ⟨0, 0, 0, 0⟩⟩, ⟨⟨0, 0, 0, 0⟩, ⟨0, 0, 0, 0⟩⟩, ⟨⟨0, 0, 0, 0⟩, ⟨0, 0, 0, 0⟩⟩, ⟨⟨0, 0, 0, 0⟩, ⟨0, 0, 0, 0⟩⟩, ⟨⟨0, 0, 0, 0⟩, ⟨0, 0, 0, 0⟩⟩⟩)] [] (Ls.of (.cons .k1 .nil)) Rs.nil 7 (.on 0 .pu (.on 1 .pu (.on 2 .pu (.on 4 .pu (.on 3 .go (.on 5 .pu (.on 6 .go .nl))))))) follows_mixed (.inb (.thn (.thn (.inb (.inb (.thn (.thn (.inb (.thn .body))))))))) (by kernel_rfl) <| .dpu rfl (.n rfl) (P.mov .g2) rfl rfl <| .dpu rfl (.n rfl) (P.mov .t1) rfl rfl <| .dpu rfl (.n rfl) (P.mov .g7) rfl rfl <| .dpu rfl (.n rfl) (P.iac (i := 2) .t2 rfl .g5 runUnderlying60 sizeOf58 rfl rfl) rfl rfl <| .dgo rfl (.n rfl) (G.call call71 (.cons .t1 .nil) (S_wide_Of a0 _ rfl) .nil .nil (fun _ _ => rfl) (fun _ _ => rfl) rfl) (.inr fun _ _ _ h => (h.imp (Ls.of (.cons .k1 .nil))).ro Rs.nil) fun _ _ => ?_
  refine .dpu rfl (.n rfl) (P.iac (i := 1) .t2 rfl .t1 runUnderlying58 sizeOf36 rfl rfl) rfl rfl <| .dgo rfl (.n rfl) (G.str .t1 .t0 .k0 (.mk (cs' := (purse_Book.cs ⟨⟨(wide_Of a0), (wide_Of a0)⟩, ⟨(wide_Of a0), (wide_Of a0)⟩, ⟨(wide_Of a0), (wide_Of a0)⟩, ⟨⟨0, 0, 0, 0⟩, ⟨0, 0, 0, 0⟩⟩, ⟨⟨0, 0, 0, 0⟩, ⟨0, 0, 0, 0⟩⟩, ⟨⟨0, 0, 0, 0⟩, ⟨0, 0, 0, 0⟩⟩, ⟨⟨0, 0, 0, 0⟩, ⟨0, 0, 0, 0⟩⟩, ⟨⟨0, 0, 0, 0⟩, ⟨0, 0, 0, 0⟩⟩⟩)) sizeOf36 rfl rfl rfl rfl)) (.inr fun _ _ _ h => (h.imp (Ls.of (.cons .k1 .nil))).ro Rs.nil) fun _ _ => .dnil <| .inn <| .then <| .reg rfl <| .opp (P.bin (v := N 2) .g0 .k (.addc (by decide))) rfl <| .drop .k1 <| .opp (P.mov .t0) rfl <| .nil <| .then <| .rd ?_
  refine .seq <| .reg rfl <| .opp (P.bin (v := Bo false) .g0 .k (BinV.lss.boolc (by decide))) rfl <| .nil <| .then <| .seq <| .condF .t0 <| .exit <| .thx <| .thx <| .inb <| .inn ?_
  refine .then <| .reg rfl <| .opp (P.bin (v := N 3) .g2 .k (.addc (by decide))) rfl <| .drop .k3 <| .opp (P.mov .t0) rfl <| .nil <| .then <| .rd <| .seq <| .reg rfl <| .opp (P.bin (v := Bo true) .g0 .k (BinV.lss.boolc (by decide))) rfl <| .nil ?_
  refine .then <| .seq <| .condT .t0 <| .skip <| .then <| .seq <| .block <| .seq <| .reg rfl <| .opp (P.mov .g0) rfl <| .drop .k3 <| .opp (P.asg .t0) rfl ?_
  refine .nil <| .then <| .seq <| .reg rfl <| .drop .k2 <| .opp (P.mov .k) rfl <| .nil <| .then <| .block <| .rounds 3 <| .rd <| .seq ?_
  refine .reg rfl <| .opp (P.bin (v := Bo true) .g0 .k (BinV.lss.boolc (by decide))) rfl <| .nil <| .then <| .seq <| .condT .t0 <| .skip <| .then <| .seq <| .block <| .seq <| .reg rfl ?_
  refine .opp (P.mov .g0) rfl <| .opp (P.asg .t0) rfl <| .nil <| .then <| .drawl [blk b1 60 (purse_Book.cs ⟨⟨⟨0, 0, 0, 0⟩, ⟨0, 0, 0, 0⟩⟩, ⟨⟨0, 0, 0, 0⟩, ⟨0, 0, 0, 0⟩⟩, ⟨⟨0, 0, 0, 0⟩, ⟨0, 0, 0, 0⟩⟩, ⟨⟨0, 0, 0, 0⟩, ⟨0, 0, 0, 0⟩⟩, ⟨⟨0, 0, 0, 0⟩, ⟨0, 0, 0, 0⟩⟩, ⟨⟨0, 0, 0, 0⟩, ⟨0, 0, 0, 0⟩⟩, ⟨⟨0, 0, 0, 0⟩, ⟨0, 0, 0, 0⟩⟩, ⟨⟨0, 0, 0, 0⟩, ⟨0, 0, 0, 0⟩⟩⟩)] [] (Ls.of (.cons .k1 .nil)) Rs.nil 7 (.on 0 .pu (.on 1 .pu (.on 2 .pu (.on 4 .pu (.on 3 .go (.on 5 .pu (.on 6 .go .nl))))))) follows_mixed (.inb (.thn (.thn (.inb (.inb (.thn (.thn (.inb (.thn .body))))))))) (by kernel_rfl) <| .dpu rfl (.n rfl) (P.mov .g2) rfl rfl <| .dpu rfl (.n rfl) (P.mov .t1) rfl rfl <| .dpu rfl (.n rfl) (P.mov .g7) rfl rfl <| .dpu rfl (.n rfl) (P.iac (i := 3) .t2 rfl .g5 runUnderlying60 sizeOf58 rfl rfl) rfl rfl <| .dgo rfl (.n rfl) (G.call call71 (.cons .t1 .nil) (S_wide_Of a0 _ rfl) .nil .nil (fun _ _ => rfl) (fun _ _ => rfl) rfl) (.inr fun _ _ _ h => (h.imp (Ls.of (.cons .k1 .nil))).ro Rs.nil) fun _ _ => .dpu rfl (.n rfl) (P.iac (i := 0) .t2 rfl .t1 runUnderlying58 sizeOf36 rfl rfl) rfl rfl <| .dgo rfl (.n rfl) (G.str .t1 .t0 .k0 (.mk (cs' := (purse_Book.cs ⟨⟨(wide_Of a0), (wide_Of a0)⟩, ⟨(wide_Of a0), (wide_Of a0)⟩, ⟨(wide_Of a0), (wide_Of a0)⟩, ⟨(wide_Of a0), ⟨0, 0, 0, 0⟩⟩, ⟨⟨0, 0, 0, 0⟩, ⟨0, 0, 0, 0⟩⟩, ⟨⟨0, 0, 0, 0⟩, ⟨0, 0, 0, 0⟩⟩, ⟨⟨0, 0, 0, 0⟩, ⟨0, 0, 0, 0⟩⟩, ⟨⟨0, 0, 0, 0⟩, ⟨0, 0, 0, 0⟩⟩⟩)) sizeOf36 rfl rfl rfl rfl)) (.inr fun _ _ _ h => (h.imp (Ls.of (.cons .k1 .nil))).ro Rs.nil) fun _ _ => ?_
  refine .dnil <| .inn <| .then <| .reg rfl <| .opp (P.bin (v := N 1) .g0 .k (.addc (by decide))) rfl <| .drop .k1 <| .opp (P.mov .t0) rfl <| .nil <| .then <| .rd <| .seq <| .reg rfl ?_
  refine .opp (P.bin (v := Bo true) .g0 .k (BinV.lss.boolc (by decide))) rfl <| .nil <| .then <| .seq <| .condT .t0 <| .skip <| .then <| .seq <| .block <| .seq <| .reg rfl <| .opp (P.mov .g0) rfl ?_
  refine .opp (P.asg .t0) rfl <| .nil <| .then <| .drawl [blk b1 60 (purse_Book.cs ⟨⟨⟨0, 0, 0, 0⟩, ⟨0, 0, 0, 0⟩⟩, ⟨⟨0, 0, 0, 0⟩, ⟨0, 0, 0, 0⟩⟩, ⟨⟨0, 0, 0, 0⟩, ⟨0, 0, 0, 0⟩⟩, ⟨⟨0, 0, 0, 0⟩, ⟨0, 0, 0, 0⟩⟩, ⟨⟨0, 0, 0, 0⟩, ⟨0, 0, 0, 0⟩⟩, ⟨⟨0, 0, 0, 0⟩, ⟨0, 0, 0, 0⟩⟩, ⟨⟨0, 0, 0, 0⟩, ⟨0, 0, 0, 0⟩⟩, ⟨⟨0, 0, 0, 0⟩, ⟨0, 0, 0, 0⟩⟩⟩)] [] (Ls.of (.cons .k1 .nil)) Rs.nil 7 (.on 0 .pu (.on 1 .pu (.on 2 .pu (.on 4 .pu (.on 3 .go (.on 5 .pu (.on 6 .go .nl))))))) follows_mixed (.inb (.thn (.thn (.inb (.inb (.thn (.thn (.inb (.thn .body))))))))) (by kernel_rfl) <| .dpu rfl (.n rfl) (P.mov .g2) rfl rfl <| .dpu rfl (.n rfl) (P.mov .t1) rfl rfl <| .dpu rfl (.n rfl) (P.mov .g7) rfl rfl <| .dpu rfl (.n rfl) (P.iac (i := 3) .t2 rfl .g5 runUnderlying60 sizeOf58 rfl rfl) rfl rfl <| .dgo rfl (.n rfl) (G.call call71 (.cons .t1 .nil) (S_wide_Of a0 _ rfl) .nil .nil (fun _ _ => rfl) (fun _ _ => rfl) rfl) (.inr fun _ _ _ h => (h.imp (Ls.of (.cons .k1 .nil))).ro Rs.nil) fun _ _ => .dpu rfl (.n rfl) (P.iac (i := 1) .t2 rfl .t1 runUnderlying58 sizeOf36 rfl rfl) rfl rfl <| .dgo rfl (.n rfl) (G.str .t1 .t0 .k0 (.mk (cs' := (purse_Book.cs ⟨⟨(wide_Of a0), (wide_Of a0)⟩, ⟨(wide_Of a0), (wide_Of a0)⟩, ⟨(wide_Of a0), (wide_Of a0)⟩, ⟨(wide_Of a0), (wide_Of a0)⟩, ⟨⟨0, 0, 0, 0⟩, ⟨0, 0, 0, 0⟩⟩, ⟨⟨0, 0, 0, 0⟩, ⟨0, 0, 0, 0⟩⟩, ⟨⟨0, 0, 0, 0⟩, ⟨0, 0, 0, 0⟩⟩, ⟨⟨0, 0, 0, 0⟩, ⟨0, 0, 0, 0⟩⟩⟩)) sizeOf36 rfl rfl rfl rfl)) (.inr fun _ _ _ h => (h.imp (Ls.of (.cons .k1 .nil))).ro Rs.nil) fun _ _ => .dnil ?_
  refine .inn <| .then <| .reg rfl <| .opp (P.bin (v := N 2) .g0 .k (.addc (by decide))) rfl <| .drop .k1 <| .opp (P.mov .t0) rfl <| .nil <| .then <| .rd <| .seq <| .reg rfl <| .opp (P.bin (v := Bo false) .g0 .k (BinV.lss.boolc (by decide))) rfl ?_
  refine .nil <| .then <| .seq <| .condF .t0 <| .exit <| .thx <| .thx <| .inb <| .inn <| .then <| .reg rfl <| .opp (P.bin (v := N 4) .g2 .k (.addc (by decide))) rfl ?_
  refine .drop .k3 <| .opp (P.mov .t0) rfl <| .nil <| .then <| .rd <| .seq <| .reg rfl <| .opp (P.bin (v := Bo true) .g0 .k (BinV.lss.boolc (by decide))) rfl <| .nil <| .then <| .seq <| .condT .t0 ?_
  refine .skip <| .then <| .seq <| .block <| .seq <| .reg rfl <| .opp (P.mov .g0) rfl <| .drop .k3 <| .opp (P.asg .t0) rfl <| .nil <| .then <| .seq ?_
  refine .reg rfl <| .drop .k2 <| .opp (P.mov .k) rfl <| .nil <| .then <| .block <| .rounds 3 <| .rd <| .seq <| .reg rfl <| .opp (P.bin (v := Bo true) .g0 .k (BinV.lss.boolc (by decide))) rfl <| .nil ?_
  refine .then <| .seq <| .condT .t0 <| .skip <| .then <| .seq <| .block <| .seq <| .reg rfl <| .opp (P.mov .g0) rfl <| .opp (P.asg .t0) rfl <| .nil ?_
  refine .then <| .drawl [blk b1 60 (purse_Book.cs ⟨⟨⟨0, 0, 0, 0⟩, ⟨0, 0, 0, 0⟩⟩, ⟨⟨0, 0, 0, 0⟩, ⟨0, 0, 0, 0⟩⟩, ⟨⟨0, 0, 0, 0⟩, ⟨0, 0, 0, 0⟩⟩, ⟨⟨0, 0, 0, 0⟩, ⟨0, 0, 0, 0⟩⟩, ⟨⟨0, 0, 0, 0⟩, ⟨0, 0, 0, 0⟩⟩, ⟨⟨0, 0, 0, 0⟩, ⟨0, 0, 0, 0⟩⟩, ⟨⟨0, 0, 0, 0⟩, ⟨0, 0, 0, 0⟩⟩, ⟨⟨0, 0, 0, 0⟩, ⟨0, 0, 0, 0⟩⟩⟩)] [] (Ls.of (.cons .k1 .nil)) Rs.nil 7 (.on 0 .pu (.on 1 .pu (.on 2 .pu (.on 4 .pu (.on 3 .go (.on 5 .pu (.on 6 .go .nl))))))) follows_mixed (.inb (.thn (.thn (.inb (.inb (.thn (.thn (.inb (.thn .body))))))))) (by kernel_rfl) <| .dpu rfl (.n rfl) (P.mov .g2) rfl rfl <| .dpu rfl (.n rfl) (P.mov .t1) rfl rfl <| .dpu rfl (.n rfl) (P.mov .g7) rfl rfl <| .dpu rfl (.n rfl) (P.iac (i := 4) .t2 rfl .g5 runUnderlying60 sizeOf58 rfl rfl) rfl rfl <| .dgo rfl (.n rfl) (G.call call71 (.cons .t1 .nil) (S_wide_Of a0 _ rfl) .nil .nil (fun _ _ => rfl) (fun _ _ => rfl) rfl) (.inr fun _ _ _ h => (h.imp (Ls.of (.cons .k1 .nil))).ro Rs.nil) fun _ _ => .dpu rfl (.n rfl) (P.iac (i := 0) .t2 rfl .t1 runUnderlying58 sizeOf36 rfl rfl) rfl rfl <| .dgo rfl (.n rfl) (G.str .t1 .t0 .k0 (.mk (cs' := (purse_Book.cs ⟨⟨(wide_Of a0), (wide_Of a0)⟩, ⟨(wide_Of a0), (wide_Of a0)⟩, ⟨(wide_Of a0), (wide_Of a0)⟩, ⟨(wide_Of a0), (wide_Of a0)⟩, ⟨(wide_Of a0), ⟨0, 0, 0, 0⟩⟩, ⟨⟨0, 0, 0, 0⟩, ⟨0, 0, 0, 0⟩⟩, ⟨⟨0, 0, 0, 0⟩, ⟨0, 0, 0, 0⟩⟩, ⟨⟨0, 0, 0, 0⟩, ⟨0, 0, 0, 0⟩⟩⟩)) sizeOf36 rfl rfl rfl rfl)) (.inr fun _ _ _ h => (h.imp (Ls.of (.cons .k1 .nil))).ro Rs.nil) fun _ _ => .dnil <| .inn <| .then ?_
  refine .reg rfl <| .opp (P.bin (v := N 1) .g0 .k (.addc (by decide))) rfl <| .drop .k1 <| .opp (P.mov .t0) rfl <| .nil <| .then <| .rd <| .seq <| .reg rfl <| .opp (P.bin (v := Bo true) .g0 .k (BinV.lss.boolc (by decide))) rfl <| .nil <| .then ?_
  refine .seq <| .condT .t0 <| .skip <| .then <| .seq <| .block <| .seq <| .reg rfl <| .opp (P.mov .g0) rfl <| .opp (P.asg .t0) rfl <| .nil <| .then ?_
  refine .drawl [blk b1 60 (purse_Book.cs ⟨⟨⟨0, 0, 0, 0⟩, ⟨0, 0, 0, 0⟩⟩, ⟨⟨0, 0, 0, 0⟩, ⟨0, 0, 0, 0⟩⟩, ⟨⟨0, 0, 0, 0⟩, ⟨0, 0, 0, 0⟩⟩, ⟨⟨0, 0, 0, 0⟩, ⟨0, 0, 0, 0⟩⟩, ⟨⟨0, 0, 0, 0⟩, ⟨0, 0, 0, 0⟩⟩, ⟨⟨0, 0, 0, 0⟩, ⟨0, 0, 0, 0⟩⟩, ⟨⟨0, 0, 0, 0⟩, ⟨0, 0, 0, 0⟩⟩, ⟨⟨0, 0, 0, 0⟩, ⟨0, 0, 0, 0⟩⟩⟩)] [] (Ls.of (.cons .k1 .nil)) Rs.nil 7 (.on 0 .pu (.on 1 .pu (.on 2 .pu (.on 4 .pu (.on 3 .go (.on 5 .pu (.on 6 .go .nl))))))) follows_mixed (.inb (.thn (.thn (.inb (.inb (.thn (.thn (.inb (.thn .body))))))))) (by kernel_rfl) <| .dpu rfl (.n rfl) (P.mov .g2) rfl rfl <| .dpu rfl (.n rfl) (P.mov .t1) rfl rfl <| .dpu rfl (.n rfl) (P.mov .g7) rfl rfl <| .dpu rfl (.n rfl) (P.iac (i := 4) .t2 rfl .g5 runUnderlying60 sizeOf58 rfl rfl) rfl rfl <| .dgo rfl (.n rfl) (G.call call71 (.cons .t1 .nil) (S_wide_Of a0 _ rfl) .nil .nil (fun _ _ => rfl) (fun _ _ => rfl) rfl) (.inr fun _ _ _ h => (h.imp (Ls.of (.cons .k1 .nil))).ro Rs.nil) fun _ _ => .dpu rfl (.n rfl) (P.iac (i := 1) .t2 rfl .t1 runUnderlying58 sizeOf36 rfl rfl) rfl rfl <| .dgo rfl (.n rfl) (G.str .t1 .t0 .k0 (.mk (cs' := (purse_Book.cs ⟨⟨(wide_Of a0), (wide_Of a0)⟩, ⟨(wide_Of a0), (wide_Of a0)⟩, ⟨(wide_Of a0), (wide_Of a0)⟩, ⟨(wide_Of a0), (wide_Of a0)⟩, ⟨(wide_Of a0), (wide_Of a0)⟩, ⟨⟨0, 0, 0, 0⟩, ⟨0, 0, 0, 0⟩⟩, ⟨⟨0, 0, 0, 0⟩, ⟨0, 0, 0, 0⟩⟩, ⟨⟨0, 0, 0, 0⟩, ⟨0, 0, 0, 0⟩⟩⟩)) sizeOf36 rfl rfl rfl rfl)) (.inr fun _ _ _ h => (h.imp (Ls.of (.cons .k1 .nil))).ro Rs.nil) fun _ _ => .dnil <| .inn <| .then <| .reg rfl ?_
  refine .opp (P.bin (v := N 2) .g0 .k (.addc (by decide))) rfl <| .drop .k1 <| .opp (P.mov .t0) rfl <| .nil <| .then <| .rd <| .seq <| .reg rfl <| .opp (P.bin (v := Bo false) .g0 .k (BinV.lss.boolc (by decide))) rfl <| .nil <| .then <| .seq ?_
  refine .condF .t0 <| .exit <| .thx <| .thx <| .inb <| .inn <| .then <| .reg rfl <| .opp (P.bin (v := N 5) .g2 .k (.addc (by decide))) rfl <| .drop .k3 <| .opp (P.mov .t0) rfl <| .nil ?_
  refine .then <| .rd <| .seq <| .reg rfl <| .opp (P.bin (v := Bo true) .g0 .k (BinV.lss.boolc (by decide))) rfl <| .nil <| .then <| .seq <| .condT .t0 <| .skip <| .then <| .seq ?_
  refine .block <| .seq <| .reg rfl <| .opp (P.mov .g0) rfl <| .drop .k3 <| .opp (P.asg .t0) rfl <| .nil <| .then <| .seq <| .reg rfl <| .drop .k2 <| .opp (P.mov .k) rfl ?_
  refine .nil <| .then <| .block <| .rounds 3 <| .rd <| .seq <| .reg rfl <| .opp (P.bin (v := Bo true) .g0 .k (BinV.lss.boolc (by decide))) rfl <| .nil <| .then <| .seq <| .condT .t0 ?_
  refine .skip <| .then <| .seq <| .block <| .seq <| .reg rfl <| .opp (P.mov .g0) rfl <| .opp (P.asg .t0) rfl <| .nil <| .then <| .drawl [blk b1 60 (purse_Book.cs ⟨⟨⟨0, 0, 0, 0⟩, ⟨0, 0, 0, 0⟩⟩, ⟨⟨0, 0, 0, 0⟩, ⟨0, 0, 0, 0⟩⟩, ⟨⟨0, 0, 0, 0⟩, ⟨0, 0, 0, 0⟩⟩, ⟨⟨0, 0, 0, 0⟩, ⟨0, 0, 0, 0⟩⟩, ⟨⟨0, 0, 0, 0⟩, ⟨0, 0, 0, 0⟩⟩, ⟨⟨0, 0, 0, 0⟩, ⟨0, 0, 0, 0⟩⟩, ⟨⟨0, 0, 0, 0⟩, ⟨0, 0, 0, 0⟩⟩, ⟨⟨0, 0, 0, 0⟩, ⟨0, 0, 0, 0⟩⟩⟩)] [] (Ls.of (.cons .k1 .nil)) Rs.nil 7 (.on 0 .pu (.on 1 .pu (.on 2 .pu (.on 4 .pu (.on 3 .go (.on 5 .pu (.on 6 .go .nl))))))) follows_mixed (.inb (.thn (.thn (.inb (.inb (.thn (.thn (.inb (.thn .body))))))))) (by kernel_rfl) <| .dpu rfl (.n rfl) (P.mov .g2) rfl rfl ?_
  refine .dpu rfl (.n rfl) (P.mov .t1) rfl rfl <| .dpu rfl (.n rfl) (P.mov .g7) rfl rfl <| .dpu rfl (.n rfl) (P.iac (i := 5) .t2 rfl .g5 runUnderlying60 sizeOf58 rfl rfl) rfl rfl <| .dgo rfl (.n rfl) (G.call call71 (.cons .t1 .nil) (S_wide_Of a0 _ rfl) .nil .nil (fun _ _ => rfl) (fun _ _ => rfl) rfl) (.inr fun _ _ _ h => (h.imp (Ls.of (.cons .k1 .nil))).ro Rs.nil) fun _ _ => .dpu rfl (.n rfl) (P.iac (i := 0) .t2 rfl .t1 runUnderlying58 sizeOf36 rfl rfl) rfl rfl <| .dgo rfl (.n rfl) (G.str .t1 .t0 .k0 (.mk (cs' := (purse_Book.cs ⟨⟨(wide_Of a0), (wide_Of a0)⟩, ⟨(wide_Of a0), (wide_Of a0)⟩, ⟨(wide_Of a0), (wide_Of a0)⟩, ⟨(wide_Of a0), (wide_Of a0)⟩, ⟨(wide_Of a0), (wide_Of a0)⟩, ⟨(wide_Of a0), ⟨0, 0, 0, 0⟩⟩, ⟨⟨0, 0, 0, 0⟩, ⟨0, 0, 0, 0⟩⟩, ⟨⟨0, 0, 0, 0⟩, ⟨0, 0, 0, 0⟩⟩⟩)) sizeOf36 rfl rfl rfl rfl)) (.inr fun _ _ _ h => (h.imp (Ls.of (.cons .k1 .nil))).ro Rs.nil) fun _ _ => .dnil <| .inn <| .then <| .reg rfl <| .opp (P.bin (v := N 1) .g0 .k (.addc (by decide))) rfl <| .drop .k1 ?_
  refine .opp (P.mov .t0) rfl <| .nil <| .then <| .rd <| .seq <| .reg rfl <| .opp (P.bin (v := Bo true) .g0 .k (BinV.lss.boolc (by decide))) rfl <| .nil <| .then <| .seq <| .condT .t0 <| .skip ?_
  refine .then <| .seq <| .block <| .seq <| .reg rfl <| .opp (P.mov .g0) rfl <| .opp (P.asg .t0) rfl <| .nil <| .then <| .drawl [blk b1 60 (purse_Book.cs ⟨⟨⟨0, 0, 0, 0⟩, ⟨0, 0, 0, 0⟩⟩, ⟨⟨0, 0, 0, 0⟩, ⟨0, 0, 0, 0⟩⟩, ⟨⟨0, 0, 0, 0⟩, ⟨0, 0, 0, 0⟩⟩, ⟨⟨0, 0, 0, 0⟩, ⟨0, 0, 0, 0⟩⟩, ⟨⟨0, 0, 0, 0⟩, ⟨0, 0, 0, 0⟩⟩, ⟨⟨0, 0, 0, 0⟩, ⟨0, 0, 0, 0⟩⟩, ⟨⟨0, 0, 0, 0⟩, ⟨0, 0, 0, 0⟩⟩, ⟨⟨0, 0, 0, 0⟩, ⟨0, 0, 0, 0⟩⟩⟩)] [] (Ls.of (.cons .k1 .nil)) Rs.nil 7 (.on 0 .pu (.on 1 .pu (.on 2 .pu (.on 4 .pu (.on 3 .go (.on 5 .pu (.on 6 .go .nl))))))) follows_mixed (.inb (.thn (.thn (.inb (.inb (.thn (.thn (.inb (.thn .body))))))))) (by kernel_rfl) <| .dpu rfl (.n rfl) (P.mov .g2) rfl rfl <| .dpu rfl (.n rfl) (P.mov .t1) rfl rfl ?_
  refine .dpu rfl (.n rfl) (P.mov .g7) rfl rfl <| .dpu rfl (.n rfl) (P.iac (i := 5) .t2 rfl .g5 runUnderlying60 sizeOf58 rfl rfl) rfl rfl <| .dgo rfl (.n rfl) (G.call call71 (.cons .t1 .nil) (S_wide_Of a0 _ rfl) .nil .nil (fun _ _ => rfl) (fun _ _ => rfl) rfl) (.inr fun _ _ _ h => (h.imp (Ls.of (.cons .k1 .nil))).ro Rs.nil) fun _ _ => .dpu rfl (.n rfl) (P.iac (i := 1) .t2 rfl .t1 runUnderlying58 sizeOf36 rfl rfl) rfl rfl <| .dgo rfl (.n rfl) (G.str .t1 .t0 .k0 (.mk (cs' := (purse_Book.cs ⟨⟨(wide_Of a0), (wide_Of a0)⟩, ⟨(wide_Of a0), (wide_Of a0)⟩, ⟨(wide_Of a0), (wide_Of a0)⟩, ⟨(wide_Of a0), (wide_Of a0)⟩, ⟨(wide_Of a0), (wide_Of a0)⟩, ⟨(wide_Of a0), (wide_Of a0)⟩, ⟨⟨0, 0, 0, 0⟩, ⟨0, 0, 0, 0⟩⟩, ⟨⟨0, 0, 0, 0⟩, ⟨0, 0, 0, 0⟩⟩⟩)) sizeOf36 rfl rfl rfl rfl)) (.inr fun _ _ _ h => (h.imp (Ls.of (.cons .k1 .nil))).ro Rs.nil) fun _ _ => .dnil <| .inn <| .then <| .reg rfl <| .opp (P.bin (v := N 2) .g0 .k (.addc (by decide))) rfl <| .drop .k1 <| .opp (P.mov .t0) rfl ?_
  refine .nil <| .then <| .rd <| .seq <| .reg rfl <| .opp (P.bin (v := Bo false) .g0 .k (BinV.lss.boolc (by decide))) rfl <| .nil <| .then <| .seq <| .condF .t0 <| .exit <| .thx ?_
  refine .thx <| .inb <| .inn <| .then <| .reg rfl <| .opp (P.bin (v := N 6) .g2 .k (.addc (by decide))) rfl <| .drop .k3 <| .opp (P.mov .t0) rfl <| .nil <| .then <| .rd <| .seq ?_
  refine .reg rfl <| .opp (P.bin (v := Bo true) .g0 .k (BinV.lss.boolc (by decide))) rfl <| .nil <| .then <| .seq <| .condT .t0 <| .skip <| .then <| .seq <| .block <| .seq <| .reg rfl ?_
  refine .opp (P.mov .g0) rfl <| .drop .k3 <| .opp (P.asg .t0) rfl <| .nil <| .then <| .seq <| .reg rfl <| .drop .k2 <| .opp (P.mov .k) rfl <| .nil <| .then <| .block ?_
  refine .rounds 3 <| .rd <| .seq <| .reg rfl <| .opp (P.bin (v := Bo true) .g0 .k (BinV.lss.boolc (by decide))) rfl <| .nil <| .then <| .seq <| .condT .t0 <| .skip <| .then <| .seq ?_
  refine .block <| .seq <| .reg rfl <| .opp (P.mov .g0) rfl <| .opp (P.asg .t0) rfl <| .nil <| .then <| .drawl [blk b1 60 (purse_Book.cs ⟨⟨⟨0, 0, 0, 0⟩, ⟨0, 0, 0, 0⟩⟩, ⟨⟨0, 0, 0, 0⟩, ⟨0, 0, 0, 0⟩⟩, ⟨⟨0, 0, 0, 0⟩, ⟨0, 0, 0, 0⟩⟩, ⟨⟨0, 0, 0, 0⟩, ⟨0, 0, 0, 0⟩⟩, ⟨⟨0, 0, 0, 0⟩, ⟨0, 0, 0, 0⟩⟩, ⟨⟨0, 0, 0, 0⟩, ⟨0, 0, 0, 0⟩⟩, ⟨⟨0, 0, 0, 0⟩, ⟨0, 0, 0, 0⟩⟩, ⟨⟨0, 0, 0, 0⟩, ⟨0, 0, 0, 0⟩⟩⟩)] [] (Ls.of (.cons .k1 .nil)) Rs.nil 7 (.on 0 .pu (.on 1 .pu (.on 2 .pu (.on 4 .pu (.on 3 .go (.on 5 .pu (.on 6 .go .nl))))))) follows_mixed (.inb (.thn (.thn (.inb (.inb (.thn (.thn (.inb (.thn .body))))))))) (by kernel_rfl) <| .dpu rfl (.n rfl) (P.mov .g2) rfl rfl <| .dpu rfl (.n rfl) (P.mov .t1) rfl rfl <| .dpu rfl (.n rfl) (P.mov .g7) rfl rfl <| .dpu rfl (.n rfl) (P.iac (i := 6) .t2 rfl .g5 runUnderlying60 sizeOf58 rfl rfl) rfl rfl ?_
  refine .dgo rfl (.n rfl) (G.call call71 (.cons .t1 .nil) (S_wide_Of a0 _ rfl) .nil .nil (fun _ _ => rfl) (fun _ _ => rfl) rfl) (.inr fun _ _ _ h => (h.imp (Ls.of (.cons .k1 .nil))).ro Rs.nil) fun _ _ => .dpu rfl (.n rfl) (P.iac (i := 0) .t2 rfl .t1 runUnderlying58 sizeOf36 rfl rfl) rfl rfl <| .dgo rfl (.n rfl) (G.str .t1 .t0 .k0 (.mk (cs' := (purse_Book.cs ⟨⟨(wide_Of a0), (wide_Of a0)⟩, ⟨(wide_Of a0), (wide_Of a0)⟩, ⟨(wide_Of a0), (wide_Of a0)⟩, ⟨(wide_Of a0), (wide_Of a0)⟩, ⟨(wide_Of a0), (wide_Of a0)⟩, ⟨(wide_Of a0), (wide_Of a0)⟩, ⟨(wide_Of a0), ⟨0, 0, 0, 0⟩⟩, ⟨⟨0, 0, 0, 0⟩, ⟨0, 0, 0, 0⟩⟩⟩)) sizeOf36 rfl rfl rfl rfl)) (.inr fun _ _ _ h => (h.imp (Ls.of (.cons .k1 .nil))).ro Rs.nil) fun _ _ => .dnil <| .inn <| .then <| .reg rfl <| .opp (P.bin (v := N 1) .g0 .k (.addc (by decide))) rfl <| .drop .k1 <| .opp (P.mov .t0) rfl <| .nil <| .then ?_
  refine .rd <| .seq <| .reg rfl <| .opp (P.bin (v := Bo true) .g0 .k (BinV.lss.boolc (by decide))) rfl <| .nil <| .then <| .seq <| .condT .t0 <| .skip <| .then <| .seq <| .block ?_
  refine .seq <| .reg rfl <| .opp (P.mov .g0) rfl <| .opp (P.asg .t0) rfl <| .nil <| .then <| .drawl [blk b1 60 (purse_Book.cs ⟨⟨⟨0, 0, 0, 0⟩, ⟨0, 0, 0, 0⟩⟩, ⟨⟨0, 0, 0, 0⟩, ⟨0, 0, 0, 0⟩⟩, ⟨⟨0, 0, 0, 0⟩, ⟨0, 0, 0, 0⟩⟩, ⟨⟨0, 0, 0, 0⟩, ⟨0, 0, 0, 0⟩⟩, ⟨⟨0, 0, 0, 0⟩, ⟨0, 0, 0, 0⟩⟩, ⟨⟨0, 0, 0, 0⟩, ⟨0, 0, 0, 0⟩⟩, ⟨⟨0, 0, 0, 0⟩, ⟨0, 0, 0, 0⟩⟩, ⟨⟨0, 0, 0, 0⟩, ⟨0, 0, 0, 0⟩⟩⟩)] [] (Ls.of (.cons .k1 .nil)) Rs.nil 7 (.on 0 .pu (.on 1 .pu (.on 2 .pu (.on 4 .pu (.on 3 .go (.on 5 .pu (.on 6 .go .nl))))))) follows_mixed (.inb (.thn (.thn (.inb (.inb (.thn (.thn (.inb (.thn .body))))))))) (by kernel_rfl) <| .dpu rfl (.n rfl) (P.mov .g2) rfl rfl <| .dpu rfl (.n rfl) (P.mov .t1) rfl rfl <| .dpu rfl (.n rfl) (P.mov .g7) rfl rfl <| .dpu rfl (.n rfl) (P.iac (i := 6) .t2 rfl .g5 runUnderlying60 sizeOf58 rfl rfl) rfl rfl <| .dgo rfl (.n rfl) (G.call call71 (.cons .t1 .nil) (S_wide_Of a0 _ rfl) .nil .nil (fun _ _ => rfl) (fun _ _ => rfl) rfl) (.inr fun _ _ _ h => (h.imp (Ls.of (.cons .k1 .nil))).ro Rs.nil) fun _ _ => ?_
  refine .dpu rfl (.n rfl) (P.iac (i := 1) .t2 rfl .t1 runUnderlying58 sizeOf36 rfl rfl) rfl rfl <| .dgo rfl (.n rfl) (G.str .t1 .t0 .k0 (.mk (cs' := (purse_Book.cs ⟨⟨(wide_Of a0), (wide_Of a0)⟩, ⟨(wide_Of a0), (wide_Of a0)⟩, ⟨(wide_Of a0), (wide_Of a0)⟩, ⟨(wide_Of a0), (wide_Of a0)⟩, ⟨(wide_Of a0), (wide_Of a0)⟩, ⟨(wide_Of a0), (wide_Of a0)⟩, ⟨(wide_Of a0), (wide_Of a0)⟩, ⟨⟨0, 0, 0, 0⟩, ⟨0, 0, 0, 0⟩⟩⟩)) sizeOf36 rfl rfl rfl rfl)) (.inr fun _ _ _ h => (h.imp (Ls.of (.cons .k1 .nil))).ro Rs.nil) fun _ _ => .dnil <| .inn <| .then <| .reg rfl <| .opp (P.bin (v := N 2) .g0 .k (.addc (by decide))) rfl <| .drop .k1 <| .opp (P.mov .t0) rfl <| .nil <| .then <| .rd ?_
  refine .seq <| .reg rfl <| .opp (P.bin (v := Bo false) .g0 .k (BinV.lss.boolc (by decide))) rfl <| .nil <| .then <| .seq <| .condF .t0 <| .exit <| .thx <| .thx <| .inb <| .inn ?_
  refine .then <| .reg rfl <| .opp (P.bin (v := N 7) .g2 .k (.addc (by decide))) rfl <| .drop .k3 <| .opp (P.mov .t0) rfl <| .nil <| .then <| .rd <| .seq <| .reg rfl <| .opp (P.bin (v := Bo true) .g0 .k (BinV.lss.boolc (by decide))) rfl <| .nil ?_
  refine .then <| .seq <| .condT .t0 <| .skip <| .then <| .seq <| .block <| .seq <| .reg rfl <| .opp (P.mov .g0) rfl <| .drop .k3 <| .opp (P.asg .t0) rfl ?_
  refine .nil <| .then <| .seq <| .reg rfl <| .drop .k2 <| .opp (P.mov .k) rfl <| .nil <| .then <| .block <| .rounds 3 <| .rd <| .seq ?_
  refine .reg rfl <| .opp (P.bin (v := Bo true) .g0 .k (BinV.lss.boolc (by decide))) rfl <| .nil <| .then <| .seq <| .condT .t0 <| .skip <| .then <| .seq <| .block <| .seq <| .reg rfl ?_
  refine .opp (P.mov .g0) rfl <| .opp (P.asg .t0) rfl <| .nil <| .then <| .drawl [blk b1 60 (purse_Book.cs ⟨⟨⟨0, 0, 0, 0⟩, ⟨0, 0, 0, 0⟩⟩, ⟨⟨0, 0, 0, 0⟩, ⟨0, 0, 0, 0⟩⟩, ⟨⟨0, 0, 0, 0⟩, ⟨0, 0, 0, 0⟩⟩, ⟨⟨0, 0, 0, 0⟩, ⟨0, 0, 0, 0⟩⟩, ⟨⟨0, 0, 0, 0⟩, ⟨0, 0, 0, 0⟩⟩, ⟨⟨0, 0, 0, 0⟩, ⟨0, 0, 0, 0⟩⟩, ⟨⟨0, 0, 0, 0⟩, ⟨0, 0, 0, 0⟩⟩, ⟨⟨0, 0, 0, 0⟩, ⟨0, 0, 0, 0⟩⟩⟩)] [] (Ls.of (.cons .k1 .nil)) Rs.nil 7 (.on 0 .pu (.on 1 .pu (.on 2 .pu (.on 4 .pu (.on 3 .go (.on 5 .pu (.on 6 .go .nl))))))) follows_mixed (.inb (.thn (.thn (.inb (.inb (.thn (.thn (.inb (.thn .body))))))))) (by kernel_rfl) <| .dpu rfl (.n rfl) (P.mov .g2) rfl rfl <| .dpu rfl (.n rfl) (P.mov .t1) rfl rfl <| .dpu rfl (.n rfl) (P.mov .g7) rfl rfl <| .dpu rfl (.n rfl) (P.iac (i := 7) .t2 rfl .g5 runUnderlying60 sizeOf58 rfl rfl) rfl rfl <| .dgo rfl (.n rfl) (G.call call71 (.cons .t1 .nil) (S_wide_Of a0 _ rfl) .nil .nil (fun _ _ => rfl) (fun _ _ => rfl) rfl) (.inr fun _ _ _ h => (h.imp (Ls.of (.cons .k1 .nil))).ro Rs.nil) fun _ _ => .dpu rfl (.n rfl) (P.iac (i := 0) .t2 rfl .t1 runUnderlying58 sizeOf36 rfl rfl) rfl rfl <| .dgo rfl (.n rfl) (G.str .t1 .t0 .k0 (.mk (cs' := (purse_Book.cs ⟨⟨(wide_Of a0), (wide_Of a0)⟩, ⟨(wide_Of a0), (wide_Of a0)⟩, ⟨(wide_Of a0), (wide_Of a0)⟩, ⟨(wide_Of a0), (wide_Of a0)⟩, ⟨(wide_Of a0), (wide_Of a0)⟩, ⟨(wide_Of a0), (wide_Of a0)⟩, ⟨(wide_Of a0), (wide_Of a0)⟩, ⟨(wide_Of a0), ⟨0, 0, 0, 0⟩⟩⟩)) sizeOf36 rfl rfl rfl rfl)) (.inr fun _ _ _ h => (h.imp (Ls.of (.cons .k1 .nil))).ro Rs.nil) fun _ _ => ?_
  refine .dnil <| .inn <| .then <| .reg rfl <| .opp (P.bin (v := N 1) .g0 .k (.addc (by decide))) rfl <| .drop .k1 <| .opp (P.mov .t0) rfl <| .nil <| .then <| .rd <| .seq <| .reg rfl ?_
  refine .opp (P.bin (v := Bo true) .g0 .k (BinV.lss.boolc (by decide))) rfl <| .nil <| .then <| .seq <| .condT .t0 <| .skip <| .then <| .seq <| .block <| .seq <| .reg rfl <| .opp (P.mov .g0) rfl ?_
  refine .opp (P.asg .t0) rfl <| .nil <| .then <| .drawl [blk b1 60 (purse_Book.cs ⟨⟨⟨0, 0, 0, 0⟩, ⟨0, 0, 0, 0⟩⟩, ⟨⟨0, 0, 0, 0⟩, ⟨0, 0, 0, 0⟩⟩, ⟨⟨0, 0, 0, 0⟩, ⟨0, 0, 0, 0⟩⟩, ⟨⟨0, 0, 0, 0⟩, ⟨0, 0, 0, 0⟩⟩, ⟨⟨0, 0, 0, 0⟩, ⟨0, 0, 0, 0⟩⟩, ⟨⟨0, 0, 0, 0⟩, ⟨0, 0, 0, 0⟩⟩, ⟨⟨0, 0, 0, 0⟩, ⟨0, 0, 0, 0⟩⟩, ⟨⟨0, 0, 0, 0⟩, ⟨0, 0, 0, 0⟩⟩⟩)] [] (Ls.of (.cons .k1 .nil)) Rs.nil 7 (.on 0 .pu (.on 1 .pu (.on 2 .pu (.on 4 .pu (.on 3 .go (.on 5 .pu (.on 6 .go .nl))))))) follows_mixed (.inb (.thn (.thn (.inb (.inb (.thn (.thn (.inb (.thn .body))))))))) (by kernel_rfl) <| .dpu rfl (.n rfl) (P.mov .g2) rfl rfl <| .dpu rfl (.n rfl) (P.mov .t1) rfl rfl <| .dpu rfl (.n rfl) (P.mov .g7) rfl rfl <| .dpu rfl (.n rfl) (P.iac (i := 7) .t2 rfl .g5 runUnderlying60 sizeOf58 rfl rfl) rfl rfl <| .dgo rfl (.n rfl) (G.call call71 (.cons .t1 .nil) (S_wide_Of a0 _ rfl) .nil .nil (fun _ _ => rfl) (fun _ _ => rfl) rfl) (.inr fun _ _ _ h => (h.imp (Ls.of (.cons .k1 .nil))).ro Rs.nil) fun _ _ => .dpu rfl (.n rfl) (P.iac (i := 1) .t2 rfl .t1 runUnderlying58 sizeOf36 rfl rfl) rfl rfl <| .dgo rfl (.n rfl) (G.str .t1 .t0 .k0 (.mk (cs' := (purse_Book.cs ⟨⟨(wide_Of a0), (wide_Of a0)⟩, ⟨(wide_Of a0), (wide_Of a0)⟩, ⟨(wide_Of a0), (wide_Of a0)⟩, ⟨(wide_Of a0), (wide_Of a0)⟩, ⟨(wide_Of a0), (wide_Of a0)⟩, ⟨(wide_Of a0), (wide_Of a0)⟩, ⟨(wide_Of a0), (wide_Of a0)⟩, ⟨(wide_Of a0), (wide_Of a0)⟩⟩)) sizeOf36 rfl rfl rfl rfl)) (.inr fun _ _ _ h => (h.imp (Ls.of (.cons .k1 .nil))).ro Rs.nil) fun _ _ => .dnil ?_
  refine .inn <| .then <| .reg rfl <| .opp (P.bin (v := N 2) .g0 .k (.addc (by decide))) rfl <| .drop .k1 <| .opp (P.mov .t0) rfl <| .nil <| .then <| .rd <| .seq <| .reg rfl <| .opp (P.bin (v := Bo false) .g0 .k (BinV.lss.boolc (by decide))) rfl ?_
  refine .nil <| .then <| .seq <| .condF .t0 <| .exit <| .thx <| .thx <| .inb <| .inn <| .then <| .reg rfl <| .opp (P.bin (v := N 8) .g2 .k (.addc (by decide))) rfl ?_
  refine .drop .k3 <| .opp (P.mov .t0) rfl <| .nil <| .then <| .rd <| .seq <| .reg rfl <| .opp (P.bin (v := Bo false) .g0 .k (BinV.lss.boolc (by decide))) rfl <| .nil <| .then <| .seq <| .condF .t0 ?_
  refine .exit <| .thx <| .thx <| .inb <| .then <| .seq <| .reg rfl <| .op (V.ld (v := Ag (purse_Book.cs ⟨⟨(wide_Of a0), (wide_Of a0)⟩, ⟨(wide_Of a0), (wide_Of a0)⟩, ⟨(wide_Of a0), (wide_Of a0)⟩, ⟨(wide_Of a0), (wide_Of a0)⟩, ⟨(wide_Of a0), (wide_Of a0)⟩, ⟨(wide_Of a0), (wide_Of a0)⟩, ⟨(wide_Of a0), (wide_Of a0)⟩, ⟨(wide_Of a0), (wide_Of a0)⟩⟩)) .t3 .k0 (.agg isAgg60 sizeOf60 rfl rfl)) rfl <| .opg (G.str .t0 .g3 .k1 (.mk (cs' := (purse_Book.cs ⟨⟨(wide_Of a0), (wide_Of a0)⟩, ⟨(wide_Of a0), (wide_Of a0)⟩, ⟨(wide_Of a0), (wide_Of a0)⟩, ⟨(wide_Of a0), (wide_Of a0)⟩, ⟨(wide_Of a0), (wide_Of a0)⟩, ⟨(wide_Of a0), (wide_Of a0)⟩, ⟨(wide_Of a0), (wide_Of a0)⟩, ⟨(wide_Of a0), (wide_Of a0)⟩⟩)) sizeOf60 rfl rfl rfl rfl)) rfl fun _ _ => .nil <| .then <| .ret ?_
  subst h
  exact .finw () (.r1 rfl (.cell .g3 .k0 (.agg isAgg60 sizeOf60 rfl rfl))) trivial (Ls.of .nil) .nil
attribute [irreducible] purse_Even
end Go.Sl
