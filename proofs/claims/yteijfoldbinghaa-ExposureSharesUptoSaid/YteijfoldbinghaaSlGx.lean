/- Walked code of the program, its pure functions and their contracts. -/
import Derived.Test.YteijfoldbinghaaSlGw
set_option linter.unusedVariables false
set_option linter.unusedSimpArgs false
namespace Go.Sl
open Go.Proofs Go.Proofs.Try
structure A2_api_Wide where
  a0 : api_Wide
  a1 : api_Wide
  deriving DecidableEq
def A2_api_Wide.cs (x : A2_api_Wide) : List Value := [U x.a0.a0, U x.a0.a1, U x.a0.a2, U x.a0.a3, U x.a1.a0, U x.a1.a1, U x.a1.a2, U x.a1.a3]
def A2_api_Wide.list (x : A2_api_Wide) : List api_Wide := [x.a0, x.a1]
def A2_api_Wide.set (x : A2_api_Wide) (k : Nat) (v : api_Wide) : A2_api_Wide := ⟨if k = 0 then v else x.a0, if k = 1 then v else x.a1⟩
def A2_api_Wide.z : A2_api_Wide := ⟨api_Wide.z, api_Wide.z⟩
structure purse_Book where
  a0 : A2_api_Wide
  a1 : A2_api_Wide
  a2 : A2_api_Wide
  a3 : A2_api_Wide
  a4 : A2_api_Wide
  a5 : A2_api_Wide
  a6 : A2_api_Wide
  a7 : A2_api_Wide
  deriving DecidableEq
def purse_Book.cs (x : purse_Book) : List Value := [U x.a0.a0.a0, U x.a0.a0.a1, U x.a0.a0.a2, U x.a0.a0.a3, U x.a0.a1.a0, U x.a0.a1.a1, U x.a0.a1.a2, U x.a0.a1.a3, U x.a1.a0.a0, U x.a1.a0.a1, U x.a1.a0.a2, U x.a1.a0.a3, U x.a1.a1.a0, U x.a1.a1.a1, U x.a1.a1.a2, U x.a1.a1.a3, U x.a2.a0.a0, U x.a2.a0.a1, U x.a2.a0.a2, U x.a2.a0.a3, U x.a2.a1.a0, U x.a2.a1.a1, U x.a2.a1.a2, U x.a2.a1.a3, U x.a3.a0.a0, U x.a3.a0.a1, U x.a3.a0.a2, U x.a3.a0.a3, U x.a3.a1.a0, U x.a3.a1.a1, U x.a3.a1.a2, U x.a3.a1.a3, U x.a4.a0.a0, U x.a4.a0.a1, U x.a4.a0.a2, U x.a4.a0.a3, U x.a4.a1.a0, U x.a4.a1.a1, U x.a4.a1.a2, U x.a4.a1.a3, U x.a5.a0.a0, U x.a5.a0.a1, U x.a5.a0.a2, U x.a5.a0.a3, U x.a5.a1.a0, U x.a5.a1.a1, U x.a5.a1.a2, U x.a5.a1.a3, U x.a6.a0.a0, U x.a6.a0.a1, U x.a6.a0.a2, U x.a6.a0.a3, U x.a6.a1.a0, U x.a6.a1.a1, U x.a6.a1.a2, U x.a6.a1.a3, U x.a7.a0.a0, U x.a7.a0.a1, U x.a7.a0.a2, U x.a7.a0.a3, U x.a7.a1.a0, U x.a7.a1.a1, U x.a7.a1.a2, U x.a7.a1.a3]
def purse_Book.list (x : purse_Book) : List A2_api_Wide := [x.a0, x.a1, x.a2, x.a3, x.a4, x.a5, x.a6, x.a7]
def purse_Book.set (x : purse_Book) (k : Nat) (v : A2_api_Wide) : purse_Book := ⟨if k = 0 then v else x.a0, if k = 1 then v else x.a1, if k = 2 then v else x.a2, if k = 3 then v else x.a3, if k = 4 then v else x.a4, if k = 5 then v else x.a5, if k = 6 then v else x.a6, if k = 7 then v else x.a7⟩
def purse_Book.z : purse_Book := ⟨A2_api_Wide.z, A2_api_Wide.z, A2_api_Wide.z, A2_api_Wide.z, A2_api_Wide.z, A2_api_Wide.z, A2_api_Wide.z, A2_api_Wide.z⟩
structure A8_i64 where
  a0 : Int
  a1 : Int
  a2 : Int
  a3 : Int
  a4 : Int
  a5 : Int
  a6 : Int
  a7 : Int
  deriving DecidableEq
def A8_i64.cs (x : A8_i64) : List Value := [N x.a0, N x.a1, N x.a2, N x.a3, N x.a4, N x.a5, N x.a6, N x.a7]
def A8_i64.list (x : A8_i64) : List Int := [x.a0, x.a1, x.a2, x.a3, x.a4, x.a5, x.a6, x.a7]
def A8_i64.set (x : A8_i64) (k : Nat) (v : Int) : A8_i64 := ⟨if k = 0 then v else x.a0, if k = 1 then v else x.a1, if k = 2 then v else x.a2, if k = 3 then v else x.a3, if k = 4 then v else x.a4, if k = 5 then v else x.a5, if k = 6 then v else x.a6, if k = 7 then v else x.a7⟩
def A8_i64.z : A8_i64 := ⟨0, 0, 0, 0, 0, 0, 0, 0⟩
structure escrow_Lock where
  Key : ByteArray
  Digest : ByteArray
  Status : Int
  deriving DecidableEq
def escrow_Lock.cs (x : escrow_Lock) : List Value := [.string x.Key, .string x.Digest, N x.Status]
def escrow_Lock.z : escrow_Lock := ⟨⟨#[]⟩, ⟨#[]⟩, 0⟩
structure escrow_State where
  Side : Int
  Time : Int
  Purse : purse_Book
  Vault : purse_Book
  Nonces : A8_i64
  Held : A2_api_Wide
  Burnt : api_Wide
  Locks : List escrow_Lock
  deriving DecidableEq
def escrow_State.cs (x : escrow_State) (z0 : Value) : List Value := [N x.Side, N x.Time, U x.Purse.a0.a0.a0, U x.Purse.a0.a0.a1, U x.Purse.a0.a0.a2, U x.Purse.a0.a0.a3, U x.Purse.a0.a1.a0, U x.Purse.a0.a1.a1, U x.Purse.a0.a1.a2, U x.Purse.a0.a1.a3, U x.Purse.a1.a0.a0, U x.Purse.a1.a0.a1, U x.Purse.a1.a0.a2, U x.Purse.a1.a0.a3, U x.Purse.a1.a1.a0, U x.Purse.a1.a1.a1, U x.Purse.a1.a1.a2, U x.Purse.a1.a1.a3, U x.Purse.a2.a0.a0, U x.Purse.a2.a0.a1, U x.Purse.a2.a0.a2, U x.Purse.a2.a0.a3, U x.Purse.a2.a1.a0, U x.Purse.a2.a1.a1, U x.Purse.a2.a1.a2, U x.Purse.a2.a1.a3, U x.Purse.a3.a0.a0, U x.Purse.a3.a0.a1, U x.Purse.a3.a0.a2, U x.Purse.a3.a0.a3, U x.Purse.a3.a1.a0, U x.Purse.a3.a1.a1, U x.Purse.a3.a1.a2, U x.Purse.a3.a1.a3, U x.Purse.a4.a0.a0, U x.Purse.a4.a0.a1, U x.Purse.a4.a0.a2, U x.Purse.a4.a0.a3, U x.Purse.a4.a1.a0, U x.Purse.a4.a1.a1, U x.Purse.a4.a1.a2, U x.Purse.a4.a1.a3, U x.Purse.a5.a0.a0, U x.Purse.a5.a0.a1, U x.Purse.a5.a0.a2, U x.Purse.a5.a0.a3, U x.Purse.a5.a1.a0, U x.Purse.a5.a1.a1, U x.Purse.a5.a1.a2, U x.Purse.a5.a1.a3, U x.Purse.a6.a0.a0, U x.Purse.a6.a0.a1, U x.Purse.a6.a0.a2, U x.Purse.a6.a0.a3, U x.Purse.a6.a1.a0, U x.Purse.a6.a1.a1, U x.Purse.a6.a1.a2, U x.Purse.a6.a1.a3, U x.Purse.a7.a0.a0, U x.Purse.a7.a0.a1, U x.Purse.a7.a0.a2, U x.Purse.a7.a0.a3, U x.Purse.a7.a1.a0, U x.Purse.a7.a1.a1, U x.Purse.a7.a1.a2, U x.Purse.a7.a1.a3, U x.Vault.a0.a0.a0, U x.Vault.a0.a0.a1, U x.Vault.a0.a0.a2, U x.Vault.a0.a0.a3, U x.Vault.a0.a1.a0, U x.Vault.a0.a1.a1, U x.Vault.a0.a1.a2, U x.Vault.a0.a1.a3, U x.Vault.a1.a0.a0, U x.Vault.a1.a0.a1, U x.Vault.a1.a0.a2, U x.Vault.a1.a0.a3, U x.Vault.a1.a1.a0, U x.Vault.a1.a1.a1, U x.Vault.a1.a1.a2, U x.Vault.a1.a1.a3, U x.Vault.a2.a0.a0, U x.Vault.a2.a0.a1, U x.Vault.a2.a0.a2, U x.Vault.a2.a0.a3, U x.Vault.a2.a1.a0, U x.Vault.a2.a1.a1, U x.Vault.a2.a1.a2, U x.Vault.a2.a1.a3, U x.Vault.a3.a0.a0, U x.Vault.a3.a0.a1, U x.Vault.a3.a0.a2, U x.Vault.a3.a0.a3, U x.Vault.a3.a1.a0, U x.Vault.a3.a1.a1, U x.Vault.a3.a1.a2, U x.Vault.a3.a1.a3, U x.Vault.a4.a0.a0, U x.Vault.a4.a0.a1, U x.Vault.a4.a0.a2, U x.Vault.a4.a0.a3, U x.Vault.a4.a1.a0, U x.Vault.a4.a1.a1, U x.Vault.a4.a1.a2, U x.Vault.a4.a1.a3, U x.Vault.a5.a0.a0, U x.Vault.a5.a0.a1, U x.Vault.a5.a0.a2, U x.Vault.a5.a0.a3, U x.Vault.a5.a1.a0, U x.Vault.a5.a1.a1, U x.Vault.a5.a1.a2, U x.Vault.a5.a1.a3, U x.Vault.a6.a0.a0, U x.Vault.a6.a0.a1, U x.Vault.a6.a0.a2, U x.Vault.a6.a0.a3, U x.Vault.a6.a1.a0, U x.Vault.a6.a1.a1, U x.Vault.a6.a1.a2, U x.Vault.a6.a1.a3, U x.Vault.a7.a0.a0, U x.Vault.a7.a0.a1, U x.Vault.a7.a0.a2, U x.Vault.a7.a0.a3, U x.Vault.a7.a1.a0, U x.Vault.a7.a1.a1, U x.Vault.a7.a1.a2, U x.Vault.a7.a1.a3, N x.Nonces.a0, N x.Nonces.a1, N x.Nonces.a2, N x.Nonces.a3, N x.Nonces.a4, N x.Nonces.a5, N x.Nonces.a6, N x.Nonces.a7, U x.Held.a0.a0, U x.Held.a0.a1, U x.Held.a0.a2, U x.Held.a0.a3, U x.Held.a1.a0, U x.Held.a1.a1, U x.Held.a1.a2, U x.Held.a1.a3, U x.Burnt.a0, U x.Burnt.a1, U x.Burnt.a2, U x.Burnt.a3, z0]
def escrow_State.z : escrow_State := ⟨0, 0, purse_Book.z, purse_Book.z, A8_i64.z, A2_api_Wide.z, api_Wide.z, []⟩
structure api_Inv where
  User : Int
  Root : ByteArray
  Router : Int
  Send : Int
  Recv : Int
  To : Int
  Id : ByteArray
  deriving DecidableEq
def api_Inv.cs (x : api_Inv) : List Value := [N x.User, .string x.Root, N x.Router, N x.Send, N x.Recv, N x.To, .string x.Id]
def api_Inv.z : api_Inv := ⟨0, ⟨#[]⟩, 0, 0, 0, 0, ⟨#[]⟩⟩
structure api_Var where
  Amount : api_Wide
  Expiry : Int
  deriving DecidableEq
def api_Var.cs (x : api_Var) : List Value := [U x.Amount.a0, U x.Amount.a1, U x.Amount.a2, U x.Amount.a3, N x.Expiry]
def api_Var.z : api_Var := ⟨api_Wide.z, 0⟩
structure api_Tx where
  From : Int
  Nonce : Int
  Kind : Int
  Asset : Int
  Amount : api_Wide
  Inv : api_Inv
  Var : api_Var
  Fee : api_Wide
  Sig : ByteArray
  deriving DecidableEq
def api_Tx.cs (x : api_Tx) : List Value := [N x.From, N x.Nonce, N x.Kind, N x.Asset, U x.Amount.a0, U x.Amount.a1, U x.Amount.a2, U x.Amount.a3, N x.Inv.User, .string x.Inv.Root, N x.Inv.Router, N x.Inv.Send, N x.Inv.Recv, N x.Inv.To, .string x.Inv.Id, U x.Var.Amount.a0, U x.Var.Amount.a1, U x.Var.Amount.a2, U x.Var.Amount.a3, N x.Var.Expiry, U x.Fee.a0, U x.Fee.a1, U x.Fee.a2, U x.Fee.a3, .string x.Sig]
def api_Tx.z : api_Tx := ⟨0, 0, 0, 0, api_Wide.z, api_Inv.z, api_Var.z, api_Wide.z, ⟨#[]⟩⟩
structure api_Event where
  Time : Int
  Code : Int
  Tx : api_Tx
  deriving DecidableEq
def api_Event.cs (x : api_Event) : List Value := [N x.Time, N x.Code, N x.Tx.From, N x.Tx.Nonce, N x.Tx.Kind, N x.Tx.Asset, U x.Tx.Amount.a0, U x.Tx.Amount.a1, U x.Tx.Amount.a2, U x.Tx.Amount.a3, N x.Tx.Inv.User, .string x.Tx.Inv.Root, N x.Tx.Inv.Router, N x.Tx.Inv.Send, N x.Tx.Inv.Recv, N x.Tx.Inv.To, .string x.Tx.Inv.Id, U x.Tx.Var.Amount.a0, U x.Tx.Var.Amount.a1, U x.Tx.Var.Amount.a2, U x.Tx.Var.Amount.a3, N x.Tx.Var.Expiry, U x.Tx.Fee.a0, U x.Tx.Fee.a1, U x.Tx.Fee.a2, U x.Tx.Fee.a3, .string x.Tx.Sig]
def api_Event.z : api_Event := ⟨0, 0, api_Tx.z⟩
theorem fa_32_3 : FaV Try.prog 32 3 3 := .mk runUnderlying32 rfl sizeOf3 rfl rfl
theorem fa_32_4 : FaV Try.prog 32 4 4 := .mk runUnderlying32 rfl sizeOf3 rfl rfl
theorem fa_36_2 : FaV Try.prog 36 2 2 := .mk runUnderlying36 rfl sizeOf3 rfl rfl
theorem fa_38_1 : FaV Try.prog 38 1 1 := .mk runUnderlying38 rfl sizeOf30 rfl rfl
theorem fa_38_2 : FaV Try.prog 38 2 2 := .mk runUnderlying38 rfl sizeOf36 rfl rfl
theorem pl_64 : ∀ w, ((#[{ name := "Side", type := 3, offset := 0, embedded := false, tag := "", pkgPath := "", byteOffset := 0 }, { name := "Time", type := 3, offset := 1, embedded := false, tag := "", pkgPath := "", byteOffset := 8 }, { name := "Purse", type := 60, offset := 2, embedded := false, tag := "", pkgPath := "", byteOffset := 16 }, { name := "Vault", type := 60, offset := 66, embedded := false, tag := "", pkgPath := "", byteOffset := 528 }, { name := "Nonces", type := 61, offset := 130, embedded := false, tag := "", pkgPath := "", byteOffset := 1040 }, { name := "Held", type := 54, offset := 138, embedded := false, tag := "", pkgPath := "", byteOffset := 1104 }, { name := "Burnt", type := 27, offset := 146, embedded := false, tag := "", pkgPath := "", byteOffset := 1168 }, { name := "Locks", type := 62, offset := 150, embedded := false, tag := "", pkgPath := "", byteOffset := 1200 }] : Array Field).mapM fun f => do pure (f.offset, ← sizeOf f.type) : Sem (Array (Nat × Nat))).run Try.prog w = .ok #[(0, 1), (1, 1), (2, 64), (66, 64), (130, 8), (138, 8), (146, 4), (150, 1)] w := fun w => by simp [sizeOf3, sizeOf27, sizeOf54, sizeOf60, sizeOf61, sizeOf62]
theorem one_36 (x : api_Tx) : oneAll (api_Tx.cs x) = true := rfl
theorem onez_64 (x : escrow_State) {z0 : Value} (hz0 : z0.oneCell' = true) : oneAll (escrow_State.cs x z0) = true := by
  simp only [oneAll, escrow_State.cs, List.all_cons, List.all_nil, hz0]
  rfl
noncomputable def bits_Mul64 (a0 : UInt64) (a1 : UInt64) : UInt64 × UInt64 :=
  ((((rshU a0 32) * (rshU a1 32)) + (rshU (((rshU a0 32) * (a1 &&& 4294967295)) + (rshU ((a0 &&& 4294967295) * (a1 &&& 4294967295)) 32)) 32)) + (rshU (((((rshU a0 32) * (a1 &&& 4294967295)) + (rshU ((a0 &&& 4294967295) * (a1 &&& 4294967295)) 32)) &&& 4294967295) + ((a0 &&& 4294967295) * (rshU a1 32))) 32), a0 * a1)
set_option maxRecDepth 20000 in
set_option maxHeartbeats 1000000 in
theorem S_bits_Mul64 (a0 : UInt64) (a1 : UInt64) (r : UInt64 × UInt64) (h : bits_Mul64 a0 a1 = r) :
    SpecF Try.prog 141 [U a0, U a1] [] [] (fun _ : Unit => True) (fun z => Tu [U r.1, U r.2]) (fun z M =>  M) (fun z M =>  M) := by
  refine .of func141 rfl ntmps141 rfl fun w0 D0 G0 => ?_
  unfold bits_Mul64 at h
  refine .seq ?_
  refine .reg rfl ?_
  refine .op0 (OpP.toV (P.asg .k)) rfl ?_
  refine .op0 (OpP.toV (P.asg .k)) rfl ?_
  refine .nil ?_
  refine .then ?_
  refine .seq ?_
  refine .reg rfl ?_
  refine .opp (P.mov .g0) rfl ?_
  refine .opp (P.bin .t0 .k (BinV.andU (x := a0) (y := 4294967295))) rfl ?_
  refine .opp (P.asg .t0) rfl ?_
  refine .nil ?_
  refine .then ?_
  refine .seq ?_
  refine .reg rfl ?_
  refine .opp (P.mov .g1) rfl ?_
  refine .opp (P.bin .t0 .k (BinV.shrU (x := a0) (n := 32) (by decide))) rfl ?_
  refine .opp (P.asg .t0) rfl ?_
  refine .nil ?_
  refine .then ?_
  refine .seq ?_
  refine .reg rfl ?_
  refine .opp (P.mov .g3) rfl ?_
  refine .opp (P.bin .t0 .k (BinV.andU (x := a1) (y := 4294967295))) rfl ?_
  refine .opp (P.asg .t0) rfl ?_
  refine .nil ?_
  refine .then ?_
  refine .seq ?_
  refine .reg rfl ?_
  refine .opp (P.mov .g4) rfl ?_
  refine .opp (P.bin .t0 .k (BinV.shrU (x := a1) (n := 32) (by decide))) rfl ?_
  refine .opp (P.asg .t0) rfl ?_
  refine .nil ?_
  refine .then ?_
  refine .seq ?_
  refine .reg rfl ?_
  refine .opp (P.mov .g3) rfl ?_
  refine .opp (P.mov .g2) rfl ?_
  refine .opp (P.bin .t1 .t0 (BinV.mulU (x := a0 &&& 4294967295) (y := a1 &&& 4294967295))) rfl ?_
  refine .opp (P.asg .t0) rfl ?_
  refine .nil ?_
  refine .then ?_
  refine .seq ?_
  refine .reg rfl ?_
  refine .opp (P.mov .g3) rfl ?_
  refine .opp (P.mov .t3) rfl ?_
  refine .opp (P.bin .t1 .t0 (BinV.mulU (x := rshU a0 32) (y := a1 &&& 4294967295))) rfl ?_
  refine .opp (P.mov .t1) rfl ?_
  refine .opp (P.bin .t0 .k (BinV.shrU (x := (a0 &&& 4294967295) * (a1 &&& 4294967295)) (n := 32) (by decide))) rfl ?_
  refine .opp (P.bin .t1 .t0 (BinV.addU (x := (rshU a0 32) * (a1 &&& 4294967295)) (y := rshU ((a0 &&& 4294967295) * (a1 &&& 4294967295)) 32))) rfl ?_
  refine .opp (P.asg .t0) rfl ?_
  refine .nil ?_
  refine .then ?_
  refine .seq ?_
  refine .reg rfl ?_
  refine .opp (P.mov .g0) rfl ?_
  refine .opp (P.bin .t0 .k (BinV.andU (x := ((rshU a0 32) * (a1 &&& 4294967295)) + (rshU ((a0 &&& 4294967295) * (a1 &&& 4294967295)) 32)) (y := 4294967295))) rfl ?_
  refine .opp (P.asg .t0) rfl ?_
  refine .nil ?_
  refine .then ?_
  refine .seq ?_
  refine .reg rfl ?_
  refine .opp (P.mov .t1) rfl ?_
  refine .opp (P.bin .t0 .k (BinV.shrU (x := ((rshU a0 32) * (a1 &&& 4294967295)) + (rshU ((a0 &&& 4294967295) * (a1 &&& 4294967295)) 32)) (n := 32) (by decide))) rfl ?_
  refine .opp (P.asg .t0) rfl ?_
  refine .nil ?_
  refine .then ?_
  refine .seq ?_
  refine .reg rfl ?_
  refine .opp (P.mov .g1) rfl ?_
  refine .opp (P.mov .t5) rfl ?_
  refine .opp (P.mov .g4) rfl ?_
  refine .opp (P.bin .t1 .t0 (BinV.mulU (x := a0 &&& 4294967295) (y := rshU a1 32))) rfl ?_
  refine .opp (P.bin .t1 .t0 (BinV.addU (x := (((rshU a0 32) * (a1 &&& 4294967295)) + (rshU ((a0 &&& 4294967295) * (a1 &&& 4294967295)) 32)) &&& 4294967295) (y := (a0 &&& 4294967295) * (rshU a1 32)))) rfl ?_
  refine .drop .k2 ?_
  refine .opp (P.asg .t0) rfl ?_
  refine .nil ?_
  refine .then ?_
  refine .seq ?_
  refine .reg rfl ?_
  refine .opp (P.mov .t3) rfl ?_
  refine .opp (P.mov .t3) rfl ?_
  refine .opp (P.bin .t1 .t0 (BinV.mulU (x := rshU a0 32) (y := rshU a1 32))) rfl ?_
  refine .opp (P.mov .t2) rfl ?_
  refine .opp (P.bin .t1 .t0 (BinV.addU (x := (rshU a0 32) * (rshU a1 32)) (y := rshU (((rshU a0 32) * (a1 &&& 4294967295)) + (rshU ((a0 &&& 4294967295) * (a1 &&& 4294967295)) 32)) 32))) rfl ?_
  refine .opp (P.mov .t1) rfl ?_
  refine .opp (P.bin .t0 .k (BinV.shrU (x := ((((rshU a0 32) * (a1 &&& 4294967295)) + (rshU ((a0 &&& 4294967295) * (a1 &&& 4294967295)) 32)) &&& 4294967295) + ((a0 &&& 4294967295) * (rshU a1 32))) (n := 32) (by decide))) rfl ?_
  refine .opp (P.bin .t1 .t0 (BinV.addU (x := ((rshU a0 32) * (rshU a1 32)) + (rshU (((rshU a0 32) * (a1 &&& 4294967295)) + (rshU ((a0 &&& 4294967295) * (a1 &&& 4294967295)) 32)) 32)) (y := rshU (((((rshU a0 32) * (a1 &&& 4294967295)) + (rshU ((a0 &&& 4294967295) * (a1 &&& 4294967295)) 32)) &&& 4294967295) + ((a0 &&& 4294967295) * (rshU a1 32))) 32))) rfl ?_
  refine .opp (P.asg .t0) rfl ?_
  refine .nil ?_
  refine .then ?_
  refine .seq ?_
  refine .reg rfl ?_
  refine .opp (P.mov .t1) rfl ?_
  refine .opp (P.mov .t2) rfl ?_
  refine .opp (P.bin .t1 .t0 (BinV.mulU (x := a0) (y := a1))) rfl ?_
  refine .opp (P.asg .t0) rfl ?_
  refine .nil ?_
  refine .then ?_
  refine .ret ?_
  subst h
  exact .finw () (.r2 rfl (.tmp .g1) (.tmp .g0)) trivial (Ls.of .nil) .nil
attribute [irreducible] bits_Mul64
noncomputable def slices_Backward_i139  : Unit :=
  ()
set_option maxRecDepth 20000 in
set_option maxHeartbeats 1000000 in
theorem S_slices_Backward_i139 (v00 : Value) (hv00 : IsSl v00) (r : Unit) (h : slices_Backward_i139  = r) :
    SpecF Try.prog 139 [v00] [] [] (fun _ : Nat => True) (fun z => fnv 176 [pt z 0]) (fun z M => blk z 216 [v00] ::  M) (fun z M =>  M) := by
  refine .of func139 rfl ntmps139 rfl fun w0 D0 G0 => ?_
  unfold slices_Backward_i139 at h
  refine .seq ?_
  refine .reg rfl ?_
  refine .opx (X.box (cs := [v00]) .t0 hv00.cells) rfl fun b1 => ?_
  refine .op0 (OpP.toV (P.asg .k)) rfl ?_
  refine .nil ?_
  refine .then ?_
  refine .seq ?_
  refine .reg rfl ?_
  refine .opp (P.mkf (.cons .t0 .nil)) rfl ?_
  refine .opp (P.asg .t0) rfl ?_
  refine .nil ?_
  refine .then ?_
  refine .ret ?_
  subst h
  exact .finw b1 (.r1 rfl (.tmp .g0)) trivial (Ls.of (.cons .k0 .nil)) .nil
attribute [irreducible] slices_Backward_i139
noncomputable def wide_Cmp (a0 : api_Wide) (a1 : api_Wide) : Option (Int) :=
  Option.bind (loopW (fun (s11 : Int) => if (decide (s11 ≥ 0)) = true then (Option.bind (at_ (api_Wide.list a0) s11) fun (x21 : UInt64) => Option.bind (at_ (api_Wide.list a1) s11) fun (x27 : UInt64) => if (decide (x21 < x27)) = true then (Option.map Ct.rt (some (-1))) else (Option.bind (at_ (api_Wide.list a1) s11) fun (x34 : UInt64) => if (decide (x21 > x34)) = true then (Option.map Ct.rt (some 1)) else (some (.nx (IntKind.i64.wrap (s11 - 1)))))) else (some (.br s11))) 3) fun o13 => Lo.on o13 fun (s11 : Int) => some 0
set_option maxRecDepth 20000 in
set_option maxHeartbeats 1000000 in
theorem S_wide_Cmp (a0 : api_Wide) (a1 : api_Wide) (r : Int) (h : wide_Cmp a0 a1 = some r) :
    SpecF Try.prog 91 [Ag (api_Wide.cs a0), Ag (api_Wide.cs a1)] [] [] (fun _ : Unit => True) (fun z => N r) (fun z M =>  M) (fun z M =>  M) := by
  refine .of func91 rfl ntmps91 rfl fun w0 D0 G0 => ?_
  unfold wide_Cmp at h
  refine .seq ?_
  refine .reg rfl ?_
  refine .opx (X.box (cs := (api_Wide.cs a0)) .t0 rfl) rfl fun b1 => ?_
  refine .opx (X.box (cs := (api_Wide.cs a1)) .t1 rfl) rfl fun b2 => ?_
  refine .opx (X.alc (cs := [N 0]) zeroValue3 rfl) rfl fun b3 => ?_
  refine .nil ?_
  refine .then ?_
  refine .seq ?_
  refine .seq ?_
  refine .reg rfl ?_
  refine .opp (P.sla .t2 runUnderlying27 sizeOf25) rfl ?_
  refine .opg (G.call call139 (.cons .t0 .nil) (S_slices_Backward_i139 ((.slice (some ⟨b1, 0, none⟩) 4 4)) .mk _ rfl) .nil .nil (fun _ _ => rfl) (fun _ _ => rfl) rfl) rfl fun b4 _ => ?_
  refine .nil ?_
  refine .then ?_
  refine .block ?_
  refine .rangeF rfl .t0 call176 func176 rfl ntmps176 rfl fun a5 O6 D7 l8 ha9 hO10 => ?_
  refine .seq ?_
  refine .reg rfl ?_
  refine .op (V.ld (v := (.slice (some ⟨b1, 0, none⟩) 4 4)) .g1 .k2 (.one isAgg216 rfl)) rfl ?_
  refine .opp (P.lena .t0 runUnderlying216) rfl ?_
  refine .opp (P.bin (v := N 3) .t0 .k (.subc (by decide))) rfl ?_
  refine .opp (P.asg .t0) rfl ?_
  refine .nil ?_
  refine .then ?_
  refine .block ?_
  obtain ⟨o13, ho14, h⟩ := bnd_eq h
  refine .loopW (γ := Unit) (fun (s11 : Int) z12 => [(3, N s11), (0, yv l8), (1, pt b4 0)]) (fun (s11 : Int) z12 => [blk b4 216 [(.slice (some ⟨b1, 0, none⟩) 4 4)], blk b3 3 [N 0], blk b2 27 (api_Wide.cs a1), blk b1 27 (api_Wide.cs a0), obj l8 (O6 .ready none), obj D7 (.deferred (some []))]) (fun (s11 : Int) z12 => []) () ho14 (.cons Mm.m0 (.cons Mm.m1 (.cons Mm.m2 .nil))) (.of (.cons .k2 (.cons .k2 (.cons .k2 (.cons .k2 (.cons .k0 (.cons .k0 .nil))))))) .nil (fun n19 s11 z12 hr17 => ?_)
  obtain ⟨ct18, hc15, hn16⟩ := loopK_at hr17
  refine .seq ?_
  refine .seq ?_
  refine .reg rfl ?_
  refine .opp (P.mov .g0) rfl ?_
  refine .opp (P.bin .t0 .k .geq) rfl ?_
  refine .nil ?_
  refine .then ?_
  refine .cond .t0 (fun c20 => ?_) (fun c20 => ?_)
  · rw [if_pos c20] at hc15
    refine .skip ?_
    refine .then ?_
    refine .seq ?_
    refine .block ?_
    refine .seq ?_
    refine .regY 6 rfl ?_
    refine .opp (P.mov .g1) rfl ?_
    refine .opp (P.mov .g1) rfl ?_
    refine .op (V.ld (v := (.slice (some ⟨b1, 0, none⟩) 4 4)) .g4 .k0 (.one isAgg216 rfl)) rfl ?_
    refine .opp (P.mov .g3) rfl ?_
    obtain ⟨x21, hx22, hc15⟩ := bnd_eq hc15
    obtain ⟨i23, hi24, hx22⟩ := at_eq hx22
    have hi24_ : (s11).toNat = i23 := by rw [hi24]; rfl
    refine .opp (P.ixa (i := i23) (off' := (0 + i23 * 1)) .t0 hi24 .t0 runUnderlying216 sizeOf25 (lt_of_get hx22) rfl) rfl ?_
    refine .op (V.ld (v := U x21) .t0 .k3 (by rcases i23 with _ | _ | _ | _ | _ <;> first | (obtain rfl := Option.some.inj hx22; exact LdV.one isAgg25 rfl) | (cases hx22; done))) rfl ?_
    refine .nil ?_
    refine .then ?_
    refine .yield (ps := [9, 10]) .t2 (.cons .t1 (.cons .t0 .nil)) hO10 .k4 rfl rfl (by decide) fun a25 ha26 => ?_
    refine .seq ?_
    refine .reg rfl ?_
    refine .opp (P.asg .t0) rfl ?_
    refine .nil ?_
    refine .then ?_
    refine .reg rfl ?_
    refine .opp (P.asg .t1) rfl ?_
    refine .nil ?_
    refine .then ?_
    refine .bg rfl hO10 .k0 ?_
    refine .block ?_
    refine .seq ?_
    refine .seq ?_
    refine .reg rfl ?_
    refine .opp (P.mov .g0) rfl ?_
    refine .opp (P.mov .g2) rfl ?_
    obtain ⟨x27, hx28, hc15⟩ := bnd_eq hc15
    obtain ⟨i29, hi30, hx28⟩ := at_eq hx28
    have hi30_ : (s11).toNat = i29 := by rw [hi30]; rfl
    refine .opp (P.iad (i := i29) (off' := (0 + i29 * 1)) .t0 hi30 .g4 runUnderlying27 sizeOf25 (lt_of_get hx28) rfl) rfl ?_
    refine .op (V.ld (v := U x27) .t0 .k3 (by rcases i29 with _ | _ | _ | _ | _ <;> first | (obtain rfl := Option.some.inj hx28; exact LdV.one isAgg25 rfl) | (cases hx28; done))) rfl ?_
    refine .opp (P.bin .t1 .t0 (BinV.lssU (x := x21) (y := x27))) rfl ?_
    refine .nil ?_
    refine .then ?_
    refine .cond .t0 (fun c31 => ?_) (fun c31 => ?_)
    · rw [if_pos c31] at hc15
      refine .seq ?_
      refine .reg rfl ?_
      refine .opg (G.str .k .g2 .k2 (.mk (cs' := [N ((-1))]) sizeOf3 rfl rfl rfl rfl)) rfl fun _ _ => ?_
      refine .nil ?_
      refine .then ?_
      refine .ret ?_
      refine .thr ?_
      refine .inr ?_
      refine .rret rfl ⟨rfl, rfl, rfl⟩ ha26 hO10 .k1 rfl ?_
      refine .inL rfl ?_
      refine .opp (P.not .t0) rfl ?_
      refine .nil ?_
      refine .then ?_
      refine .condT .t0 ?_
      refine .ret ?_
      refine .inr ?_
      refine .thr ?_
      obtain ⟨x32, hx33, rfl⟩ := map_rt hc15
      obtain rfl := hn16
      obtain rfl := rt_on h
      refine .thr ?_
      refine .inr ?_
      refine .rjump ha9 hO10 .k0 rfl ?_
      refine .ret ?_
      refine .inr ?_
      refine .thr ?_
      cases hx33
      exact .finm () .k4 (.r1 rfl (.cell .g0 .k0 (.one isAgg3 rfl))) trivial (Ls.of .nil) .nil
    · rw [if_neg (ne_true_of_eq_false c31)] at hc15
      refine .skip ?_
      refine .then ?_
      refine .seq ?_
      refine .reg rfl ?_
      refine .opp (P.mov .t0) rfl ?_
      refine .opp (P.mov .t1) rfl ?_
      obtain ⟨x34, hx35, hc15⟩ := bnd_eq hc15
      obtain ⟨i36, hi37, hx35⟩ := at_eq hx35
      have hi37_ : (s11).toNat = i36 := by rw [hi37]; rfl
      refine .opp (P.iad (i := i36) (off' := (0 + i36 * 1)) .t0 hi37 .t2 runUnderlying27 sizeOf25 (lt_of_get hx35) rfl) rfl ?_
      refine .op (V.ld (v := U x34) .t0 .k3 (by rcases i36 with _ | _ | _ | _ | _ <;> first | (obtain rfl := Option.some.inj hx35; exact LdV.one isAgg25 rfl) | (cases hx35; done))) rfl ?_
      refine .opp (P.bin .t1 .t0 (BinV.gtrU (x := x21) (y := x34))) rfl ?_
      refine .nil ?_
      refine .then ?_
      refine .cond .t0 (fun c38 => ?_) (fun c38 => ?_)
      · rw [if_pos c38] at hc15
        refine .seq ?_
        refine .reg rfl ?_
        refine .opg (G.str .k .g0 .k2 (.mk (cs' := [N 1]) sizeOf3 rfl rfl rfl rfl)) rfl fun _ _ => ?_
        refine .nil ?_
        refine .then ?_
        refine .ret ?_
        refine .inr ?_
        refine .rret rfl ⟨rfl, rfl, rfl⟩ ha26 hO10 .k1 rfl ?_
        refine .inL rfl ?_
        refine .opp (P.not .t0) rfl ?_
        refine .nil ?_
        refine .then ?_
        refine .condT .t0 ?_
        refine .ret ?_
        refine .inr ?_
        refine .thr ?_
        obtain ⟨x39, hx40, rfl⟩ := map_rt hc15
        obtain rfl := hn16
        obtain rfl := rt_on h
        refine .thr ?_
        refine .inr ?_
        refine .rjump ha9 hO10 .k0 rfl ?_
        refine .ret ?_
        refine .inr ?_
        refine .thr ?_
        cases hx40
        exact .finm () .k4 (.r1 rfl (.cell .g0 .k0 (.one isAgg3 rfl))) trivial (Ls.of .nil) .nil
      · rw [if_neg (ne_true_of_eq_false c38)] at hc15
        refine .skip ?_
        refine .inn ?_
        refine .rnorm rfl ⟨rfl, rfl, rfl⟩ ha26 hO10 .k0 rfl ?_
        refine .inL rfl ?_
        refine .opp (P.not .t0) rfl ?_
        refine .nil ?_
        refine .then ?_
        refine .condF .t0 ?_
        refine .skip ?_
        refine .inn ?_
        refine .then ?_
        refine .reg rfl ?_
        refine .opp (P.mov .g0) rfl ?_
        refine .opp (P.bin .t0 .k .sub) rfl ?_
        refine .drop .k1 ?_
        refine .opp (P.asg .t0) rfl ?_
        refine .nil ?_
        cases hc15
        obtain ⟨m41, hm42, hn16⟩ := hn16
        exact .rdW (IntKind.i64.wrap (s11 - 1)) () hm42 hn16 (.cons Mm.m0 (.cons Mm.m1 (.cons Mm.m2 .nil))) (.of (.cons .k1 (.cons .k1 (.cons .k1 (.cons .k1 (.cons .k0 (.cons .k0 .nil))))))) .nil
  · rw [if_neg (ne_true_of_eq_false c20)] at hc15
    refine .exit ?_
    refine .thx ?_
    cases hc15
    refine .told (γ := Unit) h hn16 (fun (s11 : Int) _ => [(3, N s11), (0, yv l8), (1, pt b4 0)]) (fun (s11 : Int) _ => [blk b4 216 [(.slice (some ⟨b1, 0, none⟩) 4 4)], blk b3 3 [N 0], blk b2 27 (api_Wide.cs a1), blk b1 27 (api_Wide.cs a0), obj l8 (O6 .ready none), obj D7 (.deferred (some []))]) (fun (s11 : Int) _ => []) () (.cons Mm.m0 (.cons Mm.m1 (.cons Mm.m2 .nil))) (.of (.cons .k0 (.cons .k0 (.cons .k0 (.cons .k0 (.cons .k0 (.cons .k0 .nil))))))) .nil (fun s11 _ h' => ?_)
    replace h := h'
    refine .thx ?_
    refine .inb ?_
    refine .rfinn ha9 hO10 .k4 rfl ?_
    refine .inn ?_
    refine .then ?_
    refine .seq ?_
    refine .reg rfl ?_
    refine .opg (G.str .k .g0 .k1 (.mk (cs' := [N 0]) sizeOf3 rfl rfl rfl rfl)) rfl fun _ _ => ?_
    refine .nil ?_
    refine .then ?_
    refine .ret ?_
    cases h
    exact .finm () .k4 (.r1 rfl (.cell .g0 .k0 (.one isAgg3 rfl))) trivial (Ls.of .nil) .nil
attribute [irreducible] wide_Cmp
noncomputable def wide_Mul (a0 : api_Wide) (a1 : UInt64) : api_Wide × Bool :=
  if (decide ((((bits_Mul64 a0.a3 a1).1) + ((add64 ((bits_Mul64 a0.a3 a1).2) (((bits_Mul64 a0.a2 a1).1) + ((add64 ((bits_Mul64 a0.a2 a1).2) (((bits_Mul64 a0.a1 a1).1) + ((add64 ((bits_Mul64 a0.a1 a1).2) (((bits_Mul64 a0.a0 a1).1) + ((add64 ((bits_Mul64 a0.a0 a1).2) 0 0).2)) 0).2)) 0).2)) 0).2)) ≠ 0)) = true then (⟨0, 0, 0, 0⟩, false) else ((⟨(add64 ((bits_Mul64 a0.a0 a1).2) 0 0).1, (add64 ((bits_Mul64 a0.a1 a1).2) (((bits_Mul64 a0.a0 a1).1) + ((add64 ((bits_Mul64 a0.a0 a1).2) 0 0).2)) 0).1, (add64 ((bits_Mul64 a0.a2 a1).2) (((bits_Mul64 a0.a1 a1).1) + ((add64 ((bits_Mul64 a0.a1 a1).2) (((bits_Mul64 a0.a0 a1).1) + ((add64 ((bits_Mul64 a0.a0 a1).2) 0 0).2)) 0).2)) 0).1, (add64 ((bits_Mul64 a0.a3 a1).2) (((bits_Mul64 a0.a2 a1).1) + ((add64 ((bits_Mul64 a0.a2 a1).2) (((bits_Mul64 a0.a1 a1).1) + ((add64 ((bits_Mul64 a0.a1 a1).2) (((bits_Mul64 a0.a0 a1).1) + ((add64 ((bits_Mul64 a0.a0 a1).2) 0 0).2)) 0).2)) 0).2)) 0).1⟩, true))
set_option maxRecDepth 20000 in
set_option maxHeartbeats 1000000 in
theorem S_wide_Mul (a0 : api_Wide) (a1 : UInt64) (r : api_Wide × Bool) (h : wide_Mul a0 a1 = r) :
    SpecF Try.prog 93 [Ag (api_Wide.cs a0), U a1] [] [] (fun _ : Unit => True) (fun z => Tu [Ag (api_Wide.cs r.1), Bo r.2]) (fun z M =>  M) (fun z M =>  M) := by
  refine .of func93 rfl ntmps93 rfl fun w0 D0 G0 => ?_
  unfold wide_Mul at h
  refine .seq ?_
  refine .reg rfl ?_
  refine .opx (X.box (cs := (api_Wide.cs a0)) .t0 rfl) rfl fun b1 => ?_
  refine .opx (X.alc (cs := (api_Wide.cs ⟨0, 0, 0, 0⟩)) zeroValue27 rfl) rfl fun b2 => ?_
  refine .op0 (OpP.toV (P.asg .k)) rfl ?_
  refine .nil ?_
  refine .then ?_
  refine .seq ?_
  refine .reg rfl ?_
  refine .opx (X.alc (cs := (api_Wide.cs ⟨0, 0, 0, 0⟩)) zeroValue27 rfl) rfl fun b3 => ?_
  refine .nil ?_
  refine .then ?_
  refine .seq ?_
  refine .reg rfl ?_
  refine .opp (P.asg .k) rfl ?_
  refine .nil ?_
  refine .then ?_
  refine .seq ?_
  refine .seq ?_
  refine .reg rfl ?_
  refine .op (V.ld (v := Ag (api_Wide.cs a0)) .t3 .k2 (.agg isAgg27 sizeOf27 rfl rfl)) rfl ?_
  refine .opp (P.mov .k) rfl ?_
  refine .nil ?_
  refine .then ?_
  refine .block ?_
  refine .rounds 5 ?_
  refine .rd ?_
  refine .seq ?_
  refine .reg rfl ?_
  refine .opp (P.bin (v := Bo true) .g0 .k (BinV.lss.boolc (by decide))) rfl ?_
  refine .nil ?_
  refine .then ?_
  refine .seq ?_
  refine .condT .t0 ?_
  refine .skip ?_
  refine .then ?_
  refine .seq ?_
  refine .block ?_
  refine .seq ?_
  refine .reg rfl ?_
  refine .opp (P.mov .g0) rfl ?_
  refine .opp (P.idx (i := 0) (v := U a0.a0) .g2 .g1 rfl runUnderlying27 sizeOf25 (by decide) (.one isAgg25 rfl)) rfl ?_
  refine .opp (P.asg .t1) rfl ?_
  refine .opp (P.asg .t1) rfl ?_
  refine .nil ?_
  refine .then ?_
  refine .seq ?_
  refine .reg rfl ?_
  refine .opp (P.mov .t0) rfl ?_
  refine .opp (P.mov .g7) rfl ?_
  refine .opg (G.call call141 (.cons .t1 (.cons .t0 .nil)) (S_bits_Mul64 a0.a0 a1 _ rfl) .nil .nil (fun _ _ => rfl) (fun _ _ => rfl) rfl) rfl fun _ _ => ?_
  refine .opp (P.mov .t0) rfl ?_
  refine .opp (P.ext (v := U ((bits_Mul64 a0.a0 a1).1)) .g0 rfl) rfl ?_
  refine .opp (P.ext (v := U ((bits_Mul64 a0.a0 a1).2)) .t1 rfl) rfl ?_
  refine .opp (P.asg .t1) rfl ?_
  refine .opp (P.asg .t1) rfl ?_
  refine .nil ?_
  refine .then ?_
  refine .seq ?_
  refine .reg rfl ?_
  refine .op0 (OpP.toV (P.asg .k)) rfl ?_
  refine .nil ?_
  refine .then ?_
  refine .seq ?_
  refine .reg rfl ?_
  refine .opp (P.mov .t2) rfl ?_
  refine .opp (P.mov .t1) rfl ?_
  refine .opp (P.mov .t5) rfl ?_
  refine .opp (P.extn (.cons .t1 (.cons .t0 (.cons .k .nil))) func140 rfl rfl fn_140 find_140 (run_add64u _ 0 0 zero_le1)) rfl ?_
  refine .opp (P.mov .t0) rfl ?_
  refine .opp (P.ext (v := U ((add64 ((bits_Mul64 a0.a0 a1).2) 0 0).1)) .g0 rfl) rfl ?_
  refine .opp (P.ext (v := U ((add64 ((bits_Mul64 a0.a0 a1).2) 0 0).2)) .t1 rfl) rfl ?_
  refine .opp (P.iac (i := 0) .t2 rfl .g5 runUnderlying27 sizeOf25 rfl rfl) rfl ?_
  refine .opg (G.str .t2 .t0 .k0 (.mk (cs' := (api_Wide.cs ⟨(add64 ((bits_Mul64 a0.a0 a1).2) 0 0).1, 0, 0, 0⟩)) sizeOf25 rfl rfl rfl rfl)) rfl fun _ _ => ?_
  refine .opp (P.asg .t0) rfl ?_
  refine .nil ?_
  refine .then ?_
  refine .reg rfl ?_
  refine .opp (P.mov .t1) rfl ?_
  refine .opp (P.mov .t1) rfl ?_
  refine .opp (P.bin .t1 .t0 (BinV.addU (x := (bits_Mul64 a0.a0 a1).1) (y := (add64 ((bits_Mul64 a0.a0 a1).2) 0 0).2))) rfl ?_
  refine .opp (P.asg .t0) rfl ?_
  refine .nil ?_
  refine .inn ?_
  refine .then ?_
  refine .reg rfl ?_
  refine .opp (P.bin (v := N 1) .g1 .k (.addc (by decide))) rfl ?_
  refine .drop .k2 ?_
  refine .opp (P.mov .t0) rfl ?_
  refine .nil ?_
  refine .then ?_
  refine .rd ?_
  refine .seq ?_
  refine .reg rfl ?_
  refine .opp (P.bin (v := Bo true) .g0 .k (BinV.lss.boolc (by decide))) rfl ?_
  refine .nil ?_
  refine .then ?_
  refine .seq ?_
  refine .condT .t0 ?_
  refine .skip ?_
  refine .then ?_
  refine .seq ?_
  refine .block ?_
  refine .seq ?_
  refine .reg rfl ?_
  refine .opp (P.mov .g0) rfl ?_
  refine .opp (P.idx (i := 1) (v := U a0.a1) .g3 .g1 rfl runUnderlying27 sizeOf25 (by decide) (.one isAgg25 rfl)) rfl ?_
  refine .opp (P.asg .t1) rfl ?_
  refine .opp (P.asg .t1) rfl ?_
  refine .nil ?_
  refine .then ?_
  refine .seq ?_
  refine .reg rfl ?_
  refine .opp (P.mov .t0) rfl ?_
  refine .opp (P.mov .g7) rfl ?_
  refine .opg (G.call call141 (.cons .t1 (.cons .t0 .nil)) (S_bits_Mul64 a0.a1 a1 _ rfl) .nil .nil (fun _ _ => rfl) (fun _ _ => rfl) rfl) rfl fun _ _ => ?_
  refine .opp (P.mov .t0) rfl ?_
  refine .opp (P.ext (v := U ((bits_Mul64 a0.a1 a1).1)) .g0 rfl) rfl ?_
  refine .opp (P.ext (v := U ((bits_Mul64 a0.a1 a1).2)) .t1 rfl) rfl ?_
  refine .opp (P.asg .t1) rfl ?_
  refine .opp (P.asg .t1) rfl ?_
  refine .nil ?_
  refine .then ?_
  refine .seq ?_
  refine .reg rfl ?_
  refine .op0 (OpP.toV (P.asg .k)) rfl ?_
  refine .nil ?_
  refine .then ?_
  refine .seq ?_
  refine .reg rfl ?_
  refine .opp (P.mov .t2) rfl ?_
  refine .opp (P.mov .t1) rfl ?_
  refine .opp (P.mov .t4) rfl ?_
  refine .opp (P.extn (.cons .t1 (.cons .t0 (.cons .k .nil))) func140 rfl rfl fn_140 find_140 (run_add64u _ _ 0 zero_le1)) rfl ?_
  refine .opp (P.mov .t0) rfl ?_
  refine .opp (P.ext (v := U ((add64 ((bits_Mul64 a0.a1 a1).2) (((bits_Mul64 a0.a0 a1).1) + ((add64 ((bits_Mul64 a0.a0 a1).2) 0 0).2)) 0).1)) .g0 rfl) rfl ?_
  refine .opp (P.ext (v := U ((add64 ((bits_Mul64 a0.a1 a1).2) (((bits_Mul64 a0.a0 a1).1) + ((add64 ((bits_Mul64 a0.a0 a1).2) 0 0).2)) 0).2)) .t1 rfl) rfl ?_
  refine .opp (P.iac (i := 1) .t2 rfl .g5 runUnderlying27 sizeOf25 rfl rfl) rfl ?_
  refine .opg (G.str .t2 .t0 .k0 (.mk (cs' := (api_Wide.cs ⟨(add64 ((bits_Mul64 a0.a0 a1).2) 0 0).1, (add64 ((bits_Mul64 a0.a1 a1).2) (((bits_Mul64 a0.a0 a1).1) + ((add64 ((bits_Mul64 a0.a0 a1).2) 0 0).2)) 0).1, 0, 0⟩)) sizeOf25 rfl rfl rfl rfl)) rfl fun _ _ => ?_
  refine .opp (P.asg .t0) rfl ?_
  refine .nil ?_
  refine .then ?_
  refine .reg rfl ?_
  refine .opp (P.mov .t1) rfl ?_
  refine .opp (P.mov .t1) rfl ?_
  refine .opp (P.bin .t1 .t0 (BinV.addU (x := (bits_Mul64 a0.a1 a1).1) (y := (add64 ((bits_Mul64 a0.a1 a1).2) (((bits_Mul64 a0.a0 a1).1) + ((add64 ((bits_Mul64 a0.a0 a1).2) 0 0).2)) 0).2))) rfl ?_
  refine .opp (P.asg .t0) rfl ?_
  refine .nil ?_
  refine .inn ?_
  refine .then ?_
  refine .reg rfl ?_
  refine .opp (P.bin (v := N 2) .g1 .k (.addc (by decide))) rfl ?_
  refine .drop .k2 ?_
  refine .opp (P.mov .t0) rfl ?_
  refine .nil ?_
  refine .then ?_
  refine .rd ?_
  refine .seq ?_
  refine .reg rfl ?_
  refine .opp (P.bin (v := Bo true) .g0 .k (BinV.lss.boolc (by decide))) rfl ?_
  refine .nil ?_
  refine .then ?_
  refine .seq ?_
  refine .condT .t0 ?_
  refine .skip ?_
  refine .then ?_
  refine .seq ?_
  refine .block ?_
  refine .seq ?_
  refine .reg rfl ?_
  refine .opp (P.mov .g0) rfl ?_
  refine .opp (P.idx (i := 2) (v := U a0.a2) .g3 .g1 rfl runUnderlying27 sizeOf25 (by decide) (.one isAgg25 rfl)) rfl ?_
  refine .opp (P.asg .t1) rfl ?_
  refine .opp (P.asg .t1) rfl ?_
  refine .nil ?_
  refine .then ?_
  refine .seq ?_
  refine .reg rfl ?_
  refine .opp (P.mov .t0) rfl ?_
  refine .opp (P.mov .g7) rfl ?_
  refine .opg (G.call call141 (.cons .t1 (.cons .t0 .nil)) (S_bits_Mul64 a0.a2 a1 _ rfl) .nil .nil (fun _ _ => rfl) (fun _ _ => rfl) rfl) rfl fun _ _ => ?_
  refine .opp (P.mov .t0) rfl ?_
  refine .opp (P.ext (v := U ((bits_Mul64 a0.a2 a1).1)) .g0 rfl) rfl ?_
  refine .opp (P.ext (v := U ((bits_Mul64 a0.a2 a1).2)) .t1 rfl) rfl ?_
  refine .opp (P.asg .t1) rfl ?_
  refine .opp (P.asg .t1) rfl ?_
  refine .nil ?_
  refine .then ?_
  refine .seq ?_
  refine .reg rfl ?_
  refine .op0 (OpP.toV (P.asg .k)) rfl ?_
  refine .nil ?_
  refine .then ?_
  refine .seq ?_
  refine .reg rfl ?_
  refine .opp (P.mov .t2) rfl ?_
  refine .opp (P.mov .t1) rfl ?_
  refine .opp (P.mov .t4) rfl ?_
  refine .opp (P.extn (.cons .t1 (.cons .t0 (.cons .k .nil))) func140 rfl rfl fn_140 find_140 (run_add64u _ _ 0 zero_le1)) rfl ?_
  refine .opp (P.mov .t0) rfl ?_
  refine .opp (P.ext (v := U ((add64 ((bits_Mul64 a0.a2 a1).2) (((bits_Mul64 a0.a1 a1).1) + ((add64 ((bits_Mul64 a0.a1 a1).2) (((bits_Mul64 a0.a0 a1).1) + ((add64 ((bits_Mul64 a0.a0 a1).2) 0 0).2)) 0).2)) 0).1)) .g0 rfl) rfl ?_
  refine .opp (P.ext (v := U ((add64 ((bits_Mul64 a0.a2 a1).2) (((bits_Mul64 a0.a1 a1).1) + ((add64 ((bits_Mul64 a0.a1 a1).2) (((bits_Mul64 a0.a0 a1).1) + ((add64 ((bits_Mul64 a0.a0 a1).2) 0 0).2)) 0).2)) 0).2)) .t1 rfl) rfl ?_
  refine .opp (P.iac (i := 2) .t2 rfl .g5 runUnderlying27 sizeOf25 rfl rfl) rfl ?_
  refine .opg (G.str .t2 .t0 .k0 (.mk (cs' := (api_Wide.cs ⟨(add64 ((bits_Mul64 a0.a0 a1).2) 0 0).1, (add64 ((bits_Mul64 a0.a1 a1).2) (((bits_Mul64 a0.a0 a1).1) + ((add64 ((bits_Mul64 a0.a0 a1).2) 0 0).2)) 0).1, (add64 ((bits_Mul64 a0.a2 a1).2) (((bits_Mul64 a0.a1 a1).1) + ((add64 ((bits_Mul64 a0.a1 a1).2) (((bits_Mul64 a0.a0 a1).1) + ((add64 ((bits_Mul64 a0.a0 a1).2) 0 0).2)) 0).2)) 0).1, 0⟩)) sizeOf25 rfl rfl rfl rfl)) rfl fun _ _ => ?_
  refine .opp (P.asg .t0) rfl ?_
  refine .nil ?_
  refine .then ?_
  refine .reg rfl ?_
  refine .opp (P.mov .t1) rfl ?_
  refine .opp (P.mov .t1) rfl ?_
  refine .opp (P.bin .t1 .t0 (BinV.addU (x := (bits_Mul64 a0.a2 a1).1) (y := (add64 ((bits_Mul64 a0.a2 a1).2) (((bits_Mul64 a0.a1 a1).1) + ((add64 ((bits_Mul64 a0.a1 a1).2) (((bits_Mul64 a0.a0 a1).1) + ((add64 ((bits_Mul64 a0.a0 a1).2) 0 0).2)) 0).2)) 0).2))) rfl ?_
  refine .opp (P.asg .t0) rfl ?_
  refine .nil ?_
  refine .inn ?_
  refine .then ?_
  refine .reg rfl ?_
  refine .opp (P.bin (v := N 3) .g1 .k (.addc (by decide))) rfl ?_
  refine .drop .k2 ?_
  refine .opp (P.mov .t0) rfl ?_
  refine .nil ?_
  refine .then ?_
  refine .rd ?_
  refine .seq ?_
  refine .reg rfl ?_
  refine .opp (P.bin (v := Bo true) .g0 .k (BinV.lss.boolc (by decide))) rfl ?_
  refine .nil ?_
  refine .then ?_
  refine .seq ?_
  refine .condT .t0 ?_
  refine .skip ?_
  refine .then ?_
  refine .seq ?_
  refine .block ?_
  refine .seq ?_
  refine .reg rfl ?_
  refine .opp (P.mov .g0) rfl ?_
  refine .opp (P.idx (i := 3) (v := U a0.a3) .g3 .g1 rfl runUnderlying27 sizeOf25 (by decide) (.one isAgg25 rfl)) rfl ?_
  refine .opp (P.asg .t1) rfl ?_
  refine .opp (P.asg .t1) rfl ?_
  refine .nil ?_
  refine .then ?_
  refine .seq ?_
  refine .reg rfl ?_
  refine .opp (P.mov .t0) rfl ?_
  refine .opp (P.mov .g7) rfl ?_
  refine .opg (G.call call141 (.cons .t1 (.cons .t0 .nil)) (S_bits_Mul64 a0.a3 a1 _ rfl) .nil .nil (fun _ _ => rfl) (fun _ _ => rfl) rfl) rfl fun _ _ => ?_
  refine .opp (P.mov .t0) rfl ?_
  refine .opp (P.ext (v := U ((bits_Mul64 a0.a3 a1).1)) .g0 rfl) rfl ?_
  refine .opp (P.ext (v := U ((bits_Mul64 a0.a3 a1).2)) .t1 rfl) rfl ?_
  refine .opp (P.asg .t1) rfl ?_
  refine .opp (P.asg .t1) rfl ?_
  refine .nil ?_
  refine .then ?_
  refine .seq ?_
  refine .reg rfl ?_
  refine .op0 (OpP.toV (P.asg .k)) rfl ?_
  refine .nil ?_
  refine .then ?_
  refine .seq ?_
  refine .reg rfl ?_
  refine .opp (P.mov .t2) rfl ?_
  refine .opp (P.mov .t1) rfl ?_
  refine .opp (P.mov .t4) rfl ?_
  refine .opp (P.extn (.cons .t1 (.cons .t0 (.cons .k .nil))) func140 rfl rfl fn_140 find_140 (run_add64u _ _ 0 zero_le1)) rfl ?_
  refine .opp (P.mov .t0) rfl ?_
  refine .opp (P.ext (v := U ((add64 ((bits_Mul64 a0.a3 a1).2) (((bits_Mul64 a0.a2 a1).1) + ((add64 ((bits_Mul64 a0.a2 a1).2) (((bits_Mul64 a0.a1 a1).1) + ((add64 ((bits_Mul64 a0.a1 a1).2) (((bits_Mul64 a0.a0 a1).1) + ((add64 ((bits_Mul64 a0.a0 a1).2) 0 0).2)) 0).2)) 0).2)) 0).1)) .g0 rfl) rfl ?_
  refine .opp (P.ext (v := U ((add64 ((bits_Mul64 a0.a3 a1).2) (((bits_Mul64 a0.a2 a1).1) + ((add64 ((bits_Mul64 a0.a2 a1).2) (((bits_Mul64 a0.a1 a1).1) + ((add64 ((bits_Mul64 a0.a1 a1).2) (((bits_Mul64 a0.a0 a1).1) + ((add64 ((bits_Mul64 a0.a0 a1).2) 0 0).2)) 0).2)) 0).2)) 0).2)) .t1 rfl) rfl ?_
  refine .opp (P.iac (i := 3) .t2 rfl .g5 runUnderlying27 sizeOf25 rfl rfl) rfl ?_
  refine .opg (G.str .t2 .t0 .k0 (.mk (cs' := (api_Wide.cs ⟨(add64 ((bits_Mul64 a0.a0 a1).2) 0 0).1, (add64 ((bits_Mul64 a0.a1 a1).2) (((bits_Mul64 a0.a0 a1).1) + ((add64 ((bits_Mul64 a0.a0 a1).2) 0 0).2)) 0).1, (add64 ((bits_Mul64 a0.a2 a1).2) (((bits_Mul64 a0.a1 a1).1) + ((add64 ((bits_Mul64 a0.a1 a1).2) (((bits_Mul64 a0.a0 a1).1) + ((add64 ((bits_Mul64 a0.a0 a1).2) 0 0).2)) 0).2)) 0).1, (add64 ((bits_Mul64 a0.a3 a1).2) (((bits_Mul64 a0.a2 a1).1) + ((add64 ((bits_Mul64 a0.a2 a1).2) (((bits_Mul64 a0.a1 a1).1) + ((add64 ((bits_Mul64 a0.a1 a1).2) (((bits_Mul64 a0.a0 a1).1) + ((add64 ((bits_Mul64 a0.a0 a1).2) 0 0).2)) 0).2)) 0).2)) 0).1⟩)) sizeOf25 rfl rfl rfl rfl)) rfl fun _ _ => ?_
  refine .opp (P.asg .t0) rfl ?_
  refine .nil ?_
  refine .then ?_
  refine .reg rfl ?_
  refine .opp (P.mov .t1) rfl ?_
  refine .opp (P.mov .t1) rfl ?_
  refine .opp (P.bin .t1 .t0 (BinV.addU (x := (bits_Mul64 a0.a3 a1).1) (y := (add64 ((bits_Mul64 a0.a3 a1).2) (((bits_Mul64 a0.a2 a1).1) + ((add64 ((bits_Mul64 a0.a2 a1).2) (((bits_Mul64 a0.a1 a1).1) + ((add64 ((bits_Mul64 a0.a1 a1).2) (((bits_Mul64 a0.a0 a1).1) + ((add64 ((bits_Mul64 a0.a0 a1).2) 0 0).2)) 0).2)) 0).2)) 0).2))) rfl ?_
  refine .opp (P.asg .t0) rfl ?_
  refine .nil ?_
  refine .inn ?_
  refine .then ?_
  refine .reg rfl ?_
  refine .opp (P.bin (v := N 4) .g1 .k (.addc (by decide))) rfl ?_
  refine .drop .k2 ?_
  refine .opp (P.mov .t0) rfl ?_
  refine .nil ?_
  refine .then ?_
  refine .rd ?_
  refine .seq ?_
  refine .reg rfl ?_
  refine .opp (P.bin (v := Bo false) .g0 .k (BinV.lss.boolc (by decide))) rfl ?_
  refine .nil ?_
  refine .then ?_
  refine .seq ?_
  refine .condF .t0 ?_
  refine .exit ?_
  refine .thx ?_
  refine .thx ?_
  refine .inb ?_
  refine .then ?_
  refine .seq ?_
  refine .seq ?_
  refine .reg rfl ?_
  refine .opp (P.mov .t1) rfl ?_
  refine .opp (P.bin .t0 .k (BinV.neqU (x := ((bits_Mul64 a0.a3 a1).1) + ((add64 ((bits_Mul64 a0.a3 a1).2) (((bits_Mul64 a0.a2 a1).1) + ((add64 ((bits_Mul64 a0.a2 a1).2) (((bits_Mul64 a0.a1 a1).1) + ((add64 ((bits_Mul64 a0.a1 a1).2) (((bits_Mul64 a0.a0 a1).1) + ((add64 ((bits_Mul64 a0.a0 a1).2) 0 0).2)) 0).2)) 0).2)) 0).2)) (y := 0))) rfl ?_
  refine .nil ?_
  refine .then ?_
  refine .cond .t0 (fun c4 => ?_) (fun c4 => ?_)
  · rw [if_pos c4] at h
    refine .seq ?_
    refine .reg rfl ?_
    refine .opp (P.bld (v := Ag (api_Wide.cs ⟨0, 0, 0, 0⟩)) .nil (bld_runA zeroValue27 runUnderlying27 sizeOf25 (by kernel_rfl))) rfl ?_
    refine .opg (G.str .t0 .g3 .k1 (.mk (cs' := (api_Wide.cs ⟨0, 0, 0, 0⟩)) sizeOf27 rfl rfl rfl rfl)) rfl fun _ _ => ?_
    refine .opp (P.asg .k) rfl ?_
    refine .nil ?_
    refine .then ?_
    refine .ret ?_
    refine .thr ?_
    subst h
    exact .finw () (.r2 rfl (.cell .g4 .k0 (.agg isAgg27 sizeOf27 rfl rfl)) (.tmp .g0)) trivial (Ls.of .nil) .nil
  · rw [if_neg (ne_true_of_eq_false c4)] at h
    refine .skip ?_
    refine .then ?_
    refine .seq ?_
    refine .reg rfl ?_
    refine .op (V.ld (v := Ag (api_Wide.cs ⟨(add64 ((bits_Mul64 a0.a0 a1).2) 0 0).1, (add64 ((bits_Mul64 a0.a1 a1).2) (((bits_Mul64 a0.a0 a1).1) + ((add64 ((bits_Mul64 a0.a0 a1).2) 0 0).2)) 0).1, (add64 ((bits_Mul64 a0.a2 a1).2) (((bits_Mul64 a0.a1 a1).1) + ((add64 ((bits_Mul64 a0.a1 a1).2) (((bits_Mul64 a0.a0 a1).1) + ((add64 ((bits_Mul64 a0.a0 a1).2) 0 0).2)) 0).2)) 0).1, (add64 ((bits_Mul64 a0.a3 a1).2) (((bits_Mul64 a0.a2 a1).1) + ((add64 ((bits_Mul64 a0.a2 a1).2) (((bits_Mul64 a0.a1 a1).1) + ((add64 ((bits_Mul64 a0.a1 a1).2) (((bits_Mul64 a0.a0 a1).1) + ((add64 ((bits_Mul64 a0.a0 a1).2) 0 0).2)) 0).2)) 0).2)) 0).1⟩)) .t2 .k0 (.agg isAgg27 sizeOf27 rfl rfl)) rfl ?_
    refine .opg (G.str .t0 .g2 .k1 (.mk (cs' := (api_Wide.cs ⟨(add64 ((bits_Mul64 a0.a0 a1).2) 0 0).1, (add64 ((bits_Mul64 a0.a1 a1).2) (((bits_Mul64 a0.a0 a1).1) + ((add64 ((bits_Mul64 a0.a0 a1).2) 0 0).2)) 0).1, (add64 ((bits_Mul64 a0.a2 a1).2) (((bits_Mul64 a0.a1 a1).1) + ((add64 ((bits_Mul64 a0.a1 a1).2) (((bits_Mul64 a0.a0 a1).1) + ((add64 ((bits_Mul64 a0.a0 a1).2) 0 0).2)) 0).2)) 0).1, (add64 ((bits_Mul64 a0.a3 a1).2) (((bits_Mul64 a0.a2 a1).1) + ((add64 ((bits_Mul64 a0.a2 a1).2) (((bits_Mul64 a0.a1 a1).1) + ((add64 ((bits_Mul64 a0.a1 a1).2) (((bits_Mul64 a0.a0 a1).1) + ((add64 ((bits_Mul64 a0.a0 a1).2) 0 0).2)) 0).2)) 0).2)) 0).1⟩)) sizeOf27 rfl rfl rfl rfl)) rfl fun _ _ => ?_
    refine .opp (P.asg .k) rfl ?_
    refine .nil ?_
    refine .then ?_
    refine .ret ?_
    subst h
    exact .finw () (.r2 rfl (.cell .g3 .k0 (.agg isAgg27 sizeOf27 rfl rfl)) (.tmp .g0)) trivial (Ls.of .nil) .nil
attribute [irreducible] wide_Mul
noncomputable def purse_Even (a0 : UInt64) : purse_Book :=
  ⟨⟨(wide_Of a0), (wide_Of a0)⟩, ⟨(wide_Of a0), (wide_Of a0)⟩, ⟨(wide_Of a0), (wide_Of a0)⟩, ⟨(wide_Of a0), (wide_Of a0)⟩, ⟨(wide_Of a0), (wide_Of a0)⟩, ⟨(wide_Of a0), (wide_Of a0)⟩, ⟨(wide_Of a0), (wide_Of a0)⟩, ⟨(wide_Of a0), (wide_Of a0)⟩⟩
set_option maxRecDepth 20000 in
set_option maxHeartbeats 1000000 in
theorem S_purse_Even (a0 : UInt64) (r : purse_Book) (h : purse_Even a0 = r) :
    SpecF Try.prog 112 [U a0] [] [] (fun _ : Unit => True) (fun z => Ag (purse_Book.cs r)) (fun z M =>  M) (fun z M =>  M) := by
  refine .of func112 rfl ntmps112 rfl fun w0 D0 G0 => ?_
  unfold purse_Even at h
  refine .seq ?_
  refine .reg rfl ?_
  refine .opx (X.alc (cs := (purse_Book.cs ⟨⟨⟨0, 0, 0, 0⟩, ⟨0, 0, 0, 0⟩⟩, ⟨⟨0, 0, 0, 0⟩, ⟨0, 0, 0, 0⟩⟩, ⟨⟨0, 0, 0, 0⟩, ⟨0, 0, 0, 0⟩⟩, ⟨⟨0, 0, 0, 0⟩, ⟨0, 0, 0, 0⟩⟩, ⟨⟨0, 0, 0, 0⟩, ⟨0, 0, 0, 0⟩⟩, ⟨⟨0, 0, 0, 0⟩, ⟨0, 0, 0, 0⟩⟩, ⟨⟨0, 0, 0, 0⟩, ⟨0, 0, 0, 0⟩⟩, ⟨⟨0, 0, 0, 0⟩, ⟨0, 0, 0, 0⟩⟩⟩)) zeroValue60 rfl) rfl fun b1 => ?_
  refine .nil ?_
  refine .then ?_
  refine .seq ?_
  refine .reg rfl ?_
  refine .opx (X.alc (cs := (purse_Book.cs ⟨⟨⟨0, 0, 0, 0⟩, ⟨0, 0, 0, 0⟩⟩, ⟨⟨0, 0, 0, 0⟩, ⟨0, 0, 0, 0⟩⟩, ⟨⟨0, 0, 0, 0⟩, ⟨0, 0, 0, 0⟩⟩, ⟨⟨0, 0, 0, 0⟩, ⟨0, 0, 0, 0⟩⟩, ⟨⟨0, 0, 0, 0⟩, ⟨0, 0, 0, 0⟩⟩, ⟨⟨0, 0, 0, 0⟩, ⟨0, 0, 0, 0⟩⟩, ⟨⟨0, 0, 0, 0⟩, ⟨0, 0, 0, 0⟩⟩, ⟨⟨0, 0, 0, 0⟩, ⟨0, 0, 0, 0⟩⟩⟩)) zeroValue60 rfl) rfl fun b2 => ?_
  refine .nil ?_
  refine .then ?_
  refine .seq ?_
  refine .seq ?_
  refine .reg rfl ?_
  refine .opp (P.mov .k) rfl ?_
  refine .nil ?_
  refine .then ?_
  refine .block ?_
  refine .rounds 9 ?_
  refine .rd ?_
  refine .seq ?_
  refine .reg rfl ?_
  refine .opp (P.bin (v := Bo true) .g0 .k (BinV.lss.boolc (by decide))) rfl ?_
  refine .nil ?_
  refine .then ?_
  refine .seq ?_
  refine .condT .t0 ?_
  refine .skip ?_
  refine .then ?_
  refine .seq ?_
  refine .block ?_
  refine .seq ?_
  refine .reg rfl ?_
  refine .opp (P.mov .g0) rfl ?_
  refine .opp (P.asg .t0) rfl ?_
  refine .nil ?_
  refine .then ?_
  refine .seq ?_
  refine .reg rfl ?_
  refine .opp (P.mov .k) rfl ?_
  refine .nil ?_
  refine .then ?_
  refine .block ?_
  refine .rounds 3 ?_
  refine .rd ?_
  refine .seq ?_
  refine .reg rfl ?_
  refine .opp (P.bin (v := Bo true) .g0 .k (BinV.lss.boolc (by decide))) rfl ?_
  refine .nil ?_
  refine .then ?_
  refine .seq ?_
  refine .condT .t0 ?_
  refine .skip ?_
  refine .then ?_
  refine .seq ?_
  refine .block ?_
  refine .seq ?_
  refine .reg rfl ?_
  refine .opp (P.mov .g0) rfl ?_
  refine .opp (P.asg .t0) rfl ?_
  refine .nil ?_
  refine .then ?_
  refine .drawl [blk b1 60 (purse_Book.cs ⟨⟨⟨0, 0, 0, 0⟩, ⟨0, 0, 0, 0⟩⟩, ⟨⟨0, 0, 0, 0⟩, ⟨0, 0, 0, 0⟩⟩, ⟨⟨0, 0, 0, 0⟩, ⟨0, 0, 0, 0⟩⟩, ⟨⟨0, 0, 0, 0⟩, ⟨0, 0, 0, 0⟩⟩, ⟨⟨0, 0, 0, 0⟩, ⟨0, 0, 0, 0⟩⟩, ⟨⟨0, 0, 0, 0⟩, ⟨0, 0, 0, 0⟩⟩, ⟨⟨0, 0, 0, 0⟩, ⟨0, 0, 0, 0⟩⟩, ⟨⟨0, 0, 0, 0⟩, ⟨0, 0, 0, 0⟩⟩⟩)] [] (Ls.of (.cons .k1 .nil)) Rs.nil 7 (.on 0 .pu (.on 1 .pu (.on 2 .pu (.on 4 .pu (.on 3 .go (.on 5 .pu (.on 6 .go .nl))))))) follows_mixed (.inb (.thn (.thn (.inb (.inb (.thn (.thn (.inb (.thn .body))))))))) (by kernel_rfl) ?_
  refine .dpu rfl (.n rfl) (P.mov .g2) rfl rfl ?_
  refine .dpu rfl (.n rfl) (P.mov .t1) rfl rfl ?_
  refine .dpu rfl (.n rfl) (P.mov .g7) rfl rfl ?_
  refine .dpu rfl (.n rfl) (P.iac (i := 0) .t2 rfl .g5 runUnderlying60 sizeOf54 rfl rfl) rfl rfl ?_
  refine .dgo rfl (.n rfl) (G.call call74 (.cons .t1 .nil) (S_wide_Of a0 _ rfl) .nil .nil (fun _ _ => rfl) (fun _ _ => rfl) rfl) (.inr fun _ _ _ h => (h.imp (Ls.of (.cons .k1 .nil))).ro Rs.nil) fun _ _ => ?_
  refine .dpu rfl (.n rfl) (P.iac (i := 0) .t2 rfl .t1 runUnderlying54 sizeOf27 rfl rfl) rfl rfl ?_
  refine .dgo rfl (.n rfl) (G.str .t1 .t0 .k0 (.mk (cs' := (purse_Book.cs ⟨⟨(wide_Of a0), ⟨0, 0, 0, 0⟩⟩, ⟨⟨0, 0, 0, 0⟩, ⟨0, 0, 0, 0⟩⟩, ⟨⟨0, 0, 0, 0⟩, ⟨0, 0, 0, 0⟩⟩, ⟨⟨0, 0, 0, 0⟩, ⟨0, 0, 0, 0⟩⟩, ⟨⟨0, 0, 0, 0⟩, ⟨0, 0, 0, 0⟩⟩, ⟨⟨0, 0, 0, 0⟩, ⟨0, 0, 0, 0⟩⟩, ⟨⟨0, 0, 0, 0⟩, ⟨0, 0, 0, 0⟩⟩, ⟨⟨0, 0, 0, 0⟩, ⟨0, 0, 0, 0⟩⟩⟩)) sizeOf27 rfl rfl rfl rfl)) (.inr fun _ _ _ h => (h.imp (Ls.of (.cons .k1 .nil))).ro Rs.nil) fun _ _ => ?_
  refine .dnil ?_
  refine .inn ?_
  refine .then ?_
  refine .reg rfl ?_
  refine .opp (P.bin (v := N 1) .g0 .k (.addc (by decide))) rfl ?_
  refine .drop .k1 ?_
  refine .opp (P.mov .t0) rfl ?_
  refine .nil ?_
  refine .then ?_
  refine .rd ?_
  refine .seq ?_
  refine .reg rfl ?_
  refine .opp (P.bin (v := Bo true) .g0 .k (BinV.lss.boolc (by decide))) rfl ?_
  refine .nil ?_
  refine .then ?_
  refine .seq ?_
  refine .condT .t0 ?_
  refine .skip ?_
  refine .then ?_
  refine .seq ?_
  refine .block ?_
  refine .seq ?_
  refine .reg rfl ?_
  refine .opp (P.mov .g0) rfl ?_
  refine .opp (P.asg .t0) rfl ?_
  refine .nil ?_
  refine .then ?_
  refine .drawl [blk b1 60 (purse_Book.cs ⟨⟨⟨0, 0, 0, 0⟩, ⟨0, 0, 0, 0⟩⟩, ⟨⟨0, 0, 0, 0⟩, ⟨0, 0, 0, 0⟩⟩, ⟨⟨0, 0, 0, 0⟩, ⟨0, 0, 0, 0⟩⟩, ⟨⟨0, 0, 0, 0⟩, ⟨0, 0, 0, 0⟩⟩, ⟨⟨0, 0, 0, 0⟩, ⟨0, 0, 0, 0⟩⟩, ⟨⟨0, 0, 0, 0⟩, ⟨0, 0, 0, 0⟩⟩, ⟨⟨0, 0, 0, 0⟩, ⟨0, 0, 0, 0⟩⟩, ⟨⟨0, 0, 0, 0⟩, ⟨0, 0, 0, 0⟩⟩⟩)] [] (Ls.of (.cons .k1 .nil)) Rs.nil 7 (.on 0 .pu (.on 1 .pu (.on 2 .pu (.on 4 .pu (.on 3 .go (.on 5 .pu (.on 6 .go .nl))))))) follows_mixed (.inb (.thn (.thn (.inb (.inb (.thn (.thn (.inb (.thn .body))))))))) (by kernel_rfl) ?_
  refine .dpu rfl (.n rfl) (P.mov .g2) rfl rfl ?_
  refine .dpu rfl (.n rfl) (P.mov .t1) rfl rfl ?_
  refine .dpu rfl (.n rfl) (P.mov .g7) rfl rfl ?_
  refine .dpu rfl (.n rfl) (P.iac (i := 0) .t2 rfl .g5 runUnderlying60 sizeOf54 rfl rfl) rfl rfl ?_
  refine .dgo rfl (.n rfl) (G.call call74 (.cons .t1 .nil) (S_wide_Of a0 _ rfl) .nil .nil (fun _ _ => rfl) (fun _ _ => rfl) rfl) (.inr fun _ _ _ h => (h.imp (Ls.of (.cons .k1 .nil))).ro Rs.nil) fun _ _ => ?_
  refine .dpu rfl (.n rfl) (P.iac (i := 1) .t2 rfl .t1 runUnderlying54 sizeOf27 rfl rfl) rfl rfl ?_
  refine .dgo rfl (.n rfl) (G.str .t1 .t0 .k0 (.mk (cs' := (purse_Book.cs ⟨⟨(wide_Of a0), (wide_Of a0)⟩, ⟨⟨0, 0, 0, 0⟩, ⟨0, 0, 0, 0⟩⟩, ⟨⟨0, 0, 0, 0⟩, ⟨0, 0, 0, 0⟩⟩, ⟨⟨0, 0, 0, 0⟩, ⟨0, 0, 0, 0⟩⟩, ⟨⟨0, 0, 0, 0⟩, ⟨0, 0, 0, 0⟩⟩, ⟨⟨0, 0, 0, 0⟩, ⟨0, 0, 0, 0⟩⟩, ⟨⟨0, 0, 0, 0⟩, ⟨0, 0, 0, 0⟩⟩, ⟨⟨0, 0, 0, 0⟩, ⟨0, 0, 0, 0⟩⟩⟩)) sizeOf27 rfl rfl rfl rfl)) (.inr fun _ _ _ h => (h.imp (Ls.of (.cons .k1 .nil))).ro Rs.nil) fun _ _ => ?_
  refine .dnil ?_
  refine .inn ?_
  refine .then ?_
  refine .reg rfl ?_
  refine .opp (P.bin (v := N 2) .g0 .k (.addc (by decide))) rfl ?_
  refine .drop .k1 ?_
  refine .opp (P.mov .t0) rfl ?_
  refine .nil ?_
  refine .then ?_
  refine .rd ?_
  refine .seq ?_
  refine .reg rfl ?_
  refine .opp (P.bin (v := Bo false) .g0 .k (BinV.lss.boolc (by decide))) rfl ?_
  refine .nil ?_
  refine .then ?_
  refine .seq ?_
  refine .condF .t0 ?_
  refine .exit ?_
  refine .thx ?_
  refine .thx ?_
  refine .inb ?_
  refine .inn ?_
  refine .then ?_
  refine .reg rfl ?_
  refine .opp (P.bin (v := N 1) .g2 .k (.addc (by decide))) rfl ?_
  refine .drop .k3 ?_
  refine .opp (P.mov .t0) rfl ?_
  refine .nil ?_
  refine .then ?_
  refine .rd ?_
  refine .seq ?_
  refine .reg rfl ?_
  refine .opp (P.bin (v := Bo true) .g0 .k (BinV.lss.boolc (by decide))) rfl ?_
  refine .nil ?_
  refine .then ?_
  refine .seq ?_
  refine .condT .t0 ?_
  refine .skip ?_
  refine .then ?_
  refine .seq ?_
  refine .block ?_
  refine .seq ?_
  refine .reg rfl ?_
  refine .opp (P.mov .g0) rfl ?_
  refine .drop .k3 ?_
  refine .opp (P.asg .t0) rfl ?_
  refine .nil ?_
  refine .then ?_
  refine .seq ?_
  refine .reg rfl ?_
  refine .drop .k2 ?_
  refine .opp (P.mov .k) rfl ?_
  refine .nil ?_
  refine .then ?_
  refine .block ?_
  refine .rounds 3 ?_
  refine .rd ?_
  refine .seq ?_
  refine .reg rfl ?_
  refine .opp (P.bin (v := Bo true) .g0 .k (BinV.lss.boolc (by decide))) rfl ?_
  refine .nil ?_
  refine .then ?_
  refine .seq ?_
  refine .condT .t0 ?_
  refine .skip ?_
  refine .then ?_
  refine .seq ?_
  refine .block ?_
  refine .seq ?_
  refine .reg rfl ?_
  refine .opp (P.mov .g0) rfl ?_
  refine .opp (P.asg .t0) rfl ?_
  refine .nil ?_
  refine .then ?_
  refine .drawl [blk b1 60 (purse_Book.cs ⟨⟨⟨0, 0, 0, 0⟩, ⟨0, 0, 0, 0⟩⟩, ⟨⟨0, 0, 0, 0⟩, ⟨0, 0, 0, 0⟩⟩, ⟨⟨0, 0, 0, 0⟩, ⟨0, 0, 0, 0⟩⟩, ⟨⟨0, 0, 0, 0⟩, ⟨0, 0, 0, 0⟩⟩, ⟨⟨0, 0, 0, 0⟩, ⟨0, 0, 0, 0⟩⟩, ⟨⟨0, 0, 0, 0⟩, ⟨0, 0, 0, 0⟩⟩, ⟨⟨0, 0, 0, 0⟩, ⟨0, 0, 0, 0⟩⟩, ⟨⟨0, 0, 0, 0⟩, ⟨0, 0, 0, 0⟩⟩⟩)] [] (Ls.of (.cons .k1 .nil)) Rs.nil 7 (.on 0 .pu (.on 1 .pu (.on 2 .pu (.on 4 .pu (.on 3 .go (.on 5 .pu (.on 6 .go .nl))))))) follows_mixed (.inb (.thn (.thn (.inb (.inb (.thn (.thn (.inb (.thn .body))))))))) (by kernel_rfl) ?_
  refine .dpu rfl (.n rfl) (P.mov .g2) rfl rfl ?_
  refine .dpu rfl (.n rfl) (P.mov .t1) rfl rfl ?_
  refine .dpu rfl (.n rfl) (P.mov .g7) rfl rfl ?_
  refine .dpu rfl (.n rfl) (P.iac (i := 1) .t2 rfl .g5 runUnderlying60 sizeOf54 rfl rfl) rfl rfl ?_
  refine .dgo rfl (.n rfl) (G.call call74 (.cons .t1 .nil) (S_wide_Of a0 _ rfl) .nil .nil (fun _ _ => rfl) (fun _ _ => rfl) rfl) (.inr fun _ _ _ h => (h.imp (Ls.of (.cons .k1 .nil))).ro Rs.nil) fun _ _ => ?_
  refine .dpu rfl (.n rfl) (P.iac (i := 0) .t2 rfl .t1 runUnderlying54 sizeOf27 rfl rfl) rfl rfl ?_
  refine .dgo rfl (.n rfl) (G.str .t1 .t0 .k0 (.mk (cs' := (purse_Book.cs ⟨⟨(wide_Of a0), (wide_Of a0)⟩, ⟨(wide_Of a0), ⟨0, 0, 0, 0⟩⟩, ⟨⟨0, 0, 0, 0⟩, ⟨0, 0, 0, 0⟩⟩, ⟨⟨0, 0, 0, 0⟩, ⟨0, 0, 0, 0⟩⟩, ⟨⟨0, 0, 0, 0⟩, ⟨0, 0, 0, 0⟩⟩, ⟨⟨0, 0, 0, 0⟩, ⟨0, 0, 0, 0⟩⟩, ⟨⟨0, 0, 0, 0⟩, ⟨0, 0, 0, 0⟩⟩, ⟨⟨0, 0, 0, 0⟩, ⟨0, 0, 0, 0⟩⟩⟩)) sizeOf27 rfl rfl rfl rfl)) (.inr fun _ _ _ h => (h.imp (Ls.of (.cons .k1 .nil))).ro Rs.nil) fun _ _ => ?_
  refine .dnil ?_
  refine .inn ?_
  refine .then ?_
  refine .reg rfl ?_
  refine .opp (P.bin (v := N 1) .g0 .k (.addc (by decide))) rfl ?_
  refine .drop .k1 ?_
  refine .opp (P.mov .t0) rfl ?_
  refine .nil ?_
  refine .then ?_
  refine .rd ?_
  refine .seq ?_
  refine .reg rfl ?_
  refine .opp (P.bin (v := Bo true) .g0 .k (BinV.lss.boolc (by decide))) rfl ?_
  refine .nil ?_
  refine .then ?_
  refine .seq ?_
  refine .condT .t0 ?_
  refine .skip ?_
  refine .then ?_
  refine .seq ?_
  refine .block ?_
  refine .seq ?_
  refine .reg rfl ?_
  refine .opp (P.mov .g0) rfl ?_
  refine .opp (P.asg .t0) rfl ?_
  refine .nil ?_
  refine .then ?_
  refine .drawl [blk b1 60 (purse_Book.cs ⟨⟨⟨0, 0, 0, 0⟩, ⟨0, 0, 0, 0⟩⟩, ⟨⟨0, 0, 0, 0⟩, ⟨0, 0, 0, 0⟩⟩, ⟨⟨0, 0, 0, 0⟩, ⟨0, 0, 0, 0⟩⟩, ⟨⟨0, 0, 0, 0⟩, ⟨0, 0, 0, 0⟩⟩, ⟨⟨0, 0, 0, 0⟩, ⟨0, 0, 0, 0⟩⟩, ⟨⟨0, 0, 0, 0⟩, ⟨0, 0, 0, 0⟩⟩, ⟨⟨0, 0, 0, 0⟩, ⟨0, 0, 0, 0⟩⟩, ⟨⟨0, 0, 0, 0⟩, ⟨0, 0, 0, 0⟩⟩⟩)] [] (Ls.of (.cons .k1 .nil)) Rs.nil 7 (.on 0 .pu (.on 1 .pu (.on 2 .pu (.on 4 .pu (.on 3 .go (.on 5 .pu (.on 6 .go .nl))))))) follows_mixed (.inb (.thn (.thn (.inb (.inb (.thn (.thn (.inb (.thn .body))))))))) (by kernel_rfl) ?_
  refine .dpu rfl (.n rfl) (P.mov .g2) rfl rfl ?_
  refine .dpu rfl (.n rfl) (P.mov .t1) rfl rfl ?_
  refine .dpu rfl (.n rfl) (P.mov .g7) rfl rfl ?_
  refine .dpu rfl (.n rfl) (P.iac (i := 1) .t2 rfl .g5 runUnderlying60 sizeOf54 rfl rfl) rfl rfl ?_
  refine .dgo rfl (.n rfl) (G.call call74 (.cons .t1 .nil) (S_wide_Of a0 _ rfl) .nil .nil (fun _ _ => rfl) (fun _ _ => rfl) rfl) (.inr fun _ _ _ h => (h.imp (Ls.of (.cons .k1 .nil))).ro Rs.nil) fun _ _ => ?_
  refine .dpu rfl (.n rfl) (P.iac (i := 1) .t2 rfl .t1 runUnderlying54 sizeOf27 rfl rfl) rfl rfl ?_
  refine .dgo rfl (.n rfl) (G.str .t1 .t0 .k0 (.mk (cs' := (purse_Book.cs ⟨⟨(wide_Of a0), (wide_Of a0)⟩, ⟨(wide_Of a0), (wide_Of a0)⟩, ⟨⟨0, 0, 0, 0⟩, ⟨0, 0, 0, 0⟩⟩, ⟨⟨0, 0, 0, 0⟩, ⟨0, 0, 0, 0⟩⟩, ⟨⟨0, 0, 0, 0⟩, ⟨0, 0, 0, 0⟩⟩, ⟨⟨0, 0, 0, 0⟩, ⟨0, 0, 0, 0⟩⟩, ⟨⟨0, 0, 0, 0⟩, ⟨0, 0, 0, 0⟩⟩, ⟨⟨0, 0, 0, 0⟩, ⟨0, 0, 0, 0⟩⟩⟩)) sizeOf27 rfl rfl rfl rfl)) (.inr fun _ _ _ h => (h.imp (Ls.of (.cons .k1 .nil))).ro Rs.nil) fun _ _ => ?_
  refine .dnil ?_
  refine .inn ?_
  refine .then ?_
  refine .reg rfl ?_
  refine .opp (P.bin (v := N 2) .g0 .k (.addc (by decide))) rfl ?_
  refine .drop .k1 ?_
  refine .opp (P.mov .t0) rfl ?_
  refine .nil ?_
  refine .then ?_
  refine .rd ?_
  refine .seq ?_
  refine .reg rfl ?_
  refine .opp (P.bin (v := Bo false) .g0 .k (BinV.lss.boolc (by decide))) rfl ?_
  refine .nil ?_
  refine .then ?_
  refine .seq ?_
  refine .condF .t0 ?_
  refine .exit ?_
  refine .thx ?_
  refine .thx ?_
  refine .inb ?_
  refine .inn ?_
  refine .then ?_
  refine .reg rfl ?_
  refine .opp (P.bin (v := N 2) .g2 .k (.addc (by decide))) rfl ?_
  refine .drop .k3 ?_
  refine .opp (P.mov .t0) rfl ?_
  refine .nil ?_
  refine .then ?_
  refine .rd ?_
  refine .seq ?_
  refine .reg rfl ?_
  refine .opp (P.bin (v := Bo true) .g0 .k (BinV.lss.boolc (by decide))) rfl ?_
  refine .nil ?_
  refine .then ?_
  refine .seq ?_
  refine .condT .t0 ?_
  refine .skip ?_
  refine .then ?_
  refine .seq ?_
  refine .block ?_
  refine .seq ?_
  refine .reg rfl ?_
  refine .opp (P.mov .g0) rfl ?_
  refine .drop .k3 ?_
  refine .opp (P.asg .t0) rfl ?_
  refine .nil ?_
  refine .then ?_
  refine .seq ?_
  refine .reg rfl ?_
  refine .drop .k2 ?_
  refine .opp (P.mov .k) rfl ?_
  refine .nil ?_
  refine .then ?_
  refine .block ?_
  refine .rounds 3 ?_
  refine .rd ?_
  refine .seq ?_
  refine .reg rfl ?_
  refine .opp (P.bin (v := Bo true) .g0 .k (BinV.lss.boolc (by decide))) rfl ?_
  refine .nil ?_
  refine .then ?_
  refine .seq ?_
  refine .condT .t0 ?_
  refine .skip ?_
  refine .then ?_
  refine .seq ?_
  refine .block ?_
  refine .seq ?_
  refine .reg rfl ?_
  refine .opp (P.mov .g0) rfl ?_
  refine .opp (P.asg .t0) rfl ?_
  refine .nil ?_
  refine .then ?_
  refine .drawl [blk b1 60 (purse_Book.cs ⟨⟨⟨0, 0, 0, 0⟩, ⟨0, 0, 0, 0⟩⟩, ⟨⟨0, 0, 0, 0⟩, ⟨0, 0, 0, 0⟩⟩, ⟨⟨0, 0, 0, 0⟩, ⟨0, 0, 0, 0⟩⟩, ⟨⟨0, 0, 0, 0⟩, ⟨0, 0, 0, 0⟩⟩, ⟨⟨0, 0, 0, 0⟩, ⟨0, 0, 0, 0⟩⟩, ⟨⟨0, 0, 0, 0⟩, ⟨0, 0, 0, 0⟩⟩, ⟨⟨0, 0, 0, 0⟩, ⟨0, 0, 0, 0⟩⟩, ⟨⟨0, 0, 0, 0⟩, ⟨0, 0, 0, 0⟩⟩⟩)] [] (Ls.of (.cons .k1 .nil)) Rs.nil 7 (.on 0 .pu (.on 1 .pu (.on 2 .pu (.on 4 .pu (.on 3 .go (.on 5 .pu (.on 6 .go .nl))))))) follows_mixed (.inb (.thn (.thn (.inb (.inb (.thn (.thn (.inb (.thn .body))))))))) (by kernel_rfl) ?_
  refine .dpu rfl (.n rfl) (P.mov .g2) rfl rfl ?_
  refine .dpu rfl (.n rfl) (P.mov .t1) rfl rfl ?_
  refine .dpu rfl (.n rfl) (P.mov .g7) rfl rfl ?_
  refine .dpu rfl (.n rfl) (P.iac (i := 2) .t2 rfl .g5 runUnderlying60 sizeOf54 rfl rfl) rfl rfl ?_
  refine .dgo rfl (.n rfl) (G.call call74 (.cons .t1 .nil) (S_wide_Of a0 _ rfl) .nil .nil (fun _ _ => rfl) (fun _ _ => rfl) rfl) (.inr fun _ _ _ h => (h.imp (Ls.of (.cons .k1 .nil))).ro Rs.nil) fun _ _ => ?_
  refine .dpu rfl (.n rfl) (P.iac (i := 0) .t2 rfl .t1 runUnderlying54 sizeOf27 rfl rfl) rfl rfl ?_
  refine .dgo rfl (.n rfl) (G.str .t1 .t0 .k0 (.mk (cs' := (purse_Book.cs ⟨⟨(wide_Of a0), (wide_Of a0)⟩, ⟨(wide_Of a0), (wide_Of a0)⟩, ⟨(wide_Of a0), ⟨0, 0, 0, 0⟩⟩, ⟨⟨0, 0, 0, 0⟩, ⟨0, 0, 0, 0⟩⟩, ⟨⟨0, 0, 0, 0⟩, ⟨0, 0, 0, 0⟩⟩, ⟨⟨0, 0, 0, 0⟩, ⟨0, 0, 0, 0⟩⟩, ⟨⟨0, 0, 0, 0⟩, ⟨0, 0, 0, 0⟩⟩, ⟨⟨0, 0, 0, 0⟩, ⟨0, 0, 0, 0⟩⟩⟩)) sizeOf27 rfl rfl rfl rfl)) (.inr fun _ _ _ h => (h.imp (Ls.of (.cons .k1 .nil))).ro Rs.nil) fun _ _ => ?_
  refine .dnil ?_
  refine .inn ?_
  refine .then ?_
  refine .reg rfl ?_
  refine .opp (P.bin (v := N 1) .g0 .k (.addc (by decide))) rfl ?_
  refine .drop .k1 ?_
  refine .opp (P.mov .t0) rfl ?_
  refine .nil ?_
  refine .then ?_
  refine .rd ?_
  refine .seq ?_
  refine .reg rfl ?_
  refine .opp (P.bin (v := Bo true) .g0 .k (BinV.lss.boolc (by decide))) rfl ?_
  refine .nil ?_
  refine .then ?_
  refine .seq ?_
  refine .condT .t0 ?_
  refine .skip ?_
  refine .then ?_
  refine .seq ?_
  refine .block ?_
  refine .seq ?_
  refine .reg rfl ?_
  refine .opp (P.mov .g0) rfl ?_
  refine .opp (P.asg .t0) rfl ?_
  refine .nil ?_
  refine .then ?_
  refine .drawl [blk b1 60 (purse_Book.cs ⟨⟨⟨0, 0, 0, 0⟩, ⟨0, 0, 0, 0⟩⟩, ⟨⟨0, 0, 0, 0⟩, ⟨0, 0, 0, 0⟩⟩, ⟨⟨0, 0, 0, 0⟩, ⟨0, 0, 0, 0⟩⟩, ⟨⟨0, 0, 0, 0⟩, ⟨0, 0, 0, 0⟩⟩, ⟨⟨0, 0, 0, 0⟩, ⟨0, 0, 0, 0⟩⟩, ⟨⟨0, 0, 0, 0⟩, ⟨0, 0, 0, 0⟩⟩, ⟨⟨0, 0, 0, 0⟩, ⟨0, 0, 0, 0⟩⟩, ⟨⟨0, 0, 0, 0⟩, ⟨0, 0, 0, 0⟩⟩⟩)] [] (Ls.of (.cons .k1 .nil)) Rs.nil 7 (.on 0 .pu (.on 1 .pu (.on 2 .pu (.on 4 .pu (.on 3 .go (.on 5 .pu (.on 6 .go .nl))))))) follows_mixed (.inb (.thn (.thn (.inb (.inb (.thn (.thn (.inb (.thn .body))))))))) (by kernel_rfl) ?_
  refine .dpu rfl (.n rfl) (P.mov .g2) rfl rfl ?_
  refine .dpu rfl (.n rfl) (P.mov .t1) rfl rfl ?_
  refine .dpu rfl (.n rfl) (P.mov .g7) rfl rfl ?_
  refine .dpu rfl (.n rfl) (P.iac (i := 2) .t2 rfl .g5 runUnderlying60 sizeOf54 rfl rfl) rfl rfl ?_
  refine .dgo rfl (.n rfl) (G.call call74 (.cons .t1 .nil) (S_wide_Of a0 _ rfl) .nil .nil (fun _ _ => rfl) (fun _ _ => rfl) rfl) (.inr fun _ _ _ h => (h.imp (Ls.of (.cons .k1 .nil))).ro Rs.nil) fun _ _ => ?_
  refine .dpu rfl (.n rfl) (P.iac (i := 1) .t2 rfl .t1 runUnderlying54 sizeOf27 rfl rfl) rfl rfl ?_
  refine .dgo rfl (.n rfl) (G.str .t1 .t0 .k0 (.mk (cs' := (purse_Book.cs ⟨⟨(wide_Of a0), (wide_Of a0)⟩, ⟨(wide_Of a0), (wide_Of a0)⟩, ⟨(wide_Of a0), (wide_Of a0)⟩, ⟨⟨0, 0, 0, 0⟩, ⟨0, 0, 0, 0⟩⟩, ⟨⟨0, 0, 0, 0⟩, ⟨0, 0, 0, 0⟩⟩, ⟨⟨0, 0, 0, 0⟩, ⟨0, 0, 0, 0⟩⟩, ⟨⟨0, 0, 0, 0⟩, ⟨0, 0, 0, 0⟩⟩, ⟨⟨0, 0, 0, 0⟩, ⟨0, 0, 0, 0⟩⟩⟩)) sizeOf27 rfl rfl rfl rfl)) (.inr fun _ _ _ h => (h.imp (Ls.of (.cons .k1 .nil))).ro Rs.nil) fun _ _ => ?_
  refine .dnil ?_
  refine .inn ?_
  refine .then ?_
  refine .reg rfl ?_
  refine .opp (P.bin (v := N 2) .g0 .k (.addc (by decide))) rfl ?_
  refine .drop .k1 ?_
  refine .opp (P.mov .t0) rfl ?_
  refine .nil ?_
  refine .then ?_
  refine .rd ?_
  refine .seq ?_
  refine .reg rfl ?_
  refine .opp (P.bin (v := Bo false) .g0 .k (BinV.lss.boolc (by decide))) rfl ?_
  refine .nil ?_
  refine .then ?_
  refine .seq ?_
  refine .condF .t0 ?_
  refine .exit ?_
  refine .thx ?_
  refine .thx ?_
  refine .inb ?_
  refine .inn ?_
  refine .then ?_
  refine .reg rfl ?_
  refine .opp (P.bin (v := N 3) .g2 .k (.addc (by decide))) rfl ?_
  refine .drop .k3 ?_
  refine .opp (P.mov .t0) rfl ?_
  refine .nil ?_
  refine .then ?_
  refine .rd ?_
  refine .seq ?_
  refine .reg rfl ?_
  refine .opp (P.bin (v := Bo true) .g0 .k (BinV.lss.boolc (by decide))) rfl ?_
  refine .nil ?_
  refine .then ?_
  refine .seq ?_
  refine .condT .t0 ?_
  refine .skip ?_
  refine .then ?_
  refine .seq ?_
  refine .block ?_
  refine .seq ?_
  refine .reg rfl ?_
  refine .opp (P.mov .g0) rfl ?_
  refine .drop .k3 ?_
  refine .opp (P.asg .t0) rfl ?_
  refine .nil ?_
  refine .then ?_
  refine .seq ?_
  refine .reg rfl ?_
  refine .drop .k2 ?_
  refine .opp (P.mov .k) rfl ?_
  refine .nil ?_
  refine .then ?_
  refine .block ?_
  refine .rounds 3 ?_
  refine .rd ?_
  refine .seq ?_
  refine .reg rfl ?_
  refine .opp (P.bin (v := Bo true) .g0 .k (BinV.lss.boolc (by decide))) rfl ?_
  refine .nil ?_
  refine .then ?_
  refine .seq ?_
  refine .condT .t0 ?_
  refine .skip ?_
  refine .then ?_
  refine .seq ?_
  refine .block ?_
  refine .seq ?_
  refine .reg rfl ?_
  refine .opp (P.mov .g0) rfl ?_
  refine .opp (P.asg .t0) rfl ?_
  refine .nil ?_
  refine .then ?_
  refine .drawl [blk b1 60 (purse_Book.cs ⟨⟨⟨0, 0, 0, 0⟩, ⟨0, 0, 0, 0⟩⟩, ⟨⟨0, 0, 0, 0⟩, ⟨0, 0, 0, 0⟩⟩, ⟨⟨0, 0, 0, 0⟩, ⟨0, 0, 0, 0⟩⟩, ⟨⟨0, 0, 0, 0⟩, ⟨0, 0, 0, 0⟩⟩, ⟨⟨0, 0, 0, 0⟩, ⟨0, 0, 0, 0⟩⟩, ⟨⟨0, 0, 0, 0⟩, ⟨0, 0, 0, 0⟩⟩, ⟨⟨0, 0, 0, 0⟩, ⟨0, 0, 0, 0⟩⟩, ⟨⟨0, 0, 0, 0⟩, ⟨0, 0, 0, 0⟩⟩⟩)] [] (Ls.of (.cons .k1 .nil)) Rs.nil 7 (.on 0 .pu (.on 1 .pu (.on 2 .pu (.on 4 .pu (.on 3 .go (.on 5 .pu (.on 6 .go .nl))))))) follows_mixed (.inb (.thn (.thn (.inb (.inb (.thn (.thn (.inb (.thn .body))))))))) (by kernel_rfl) ?_
  refine .dpu rfl (.n rfl) (P.mov .g2) rfl rfl ?_
  refine .dpu rfl (.n rfl) (P.mov .t1) rfl rfl ?_
  refine .dpu rfl (.n rfl) (P.mov .g7) rfl rfl ?_
  refine .dpu rfl (.n rfl) (P.iac (i := 3) .t2 rfl .g5 runUnderlying60 sizeOf54 rfl rfl) rfl rfl ?_
  refine .dgo rfl (.n rfl) (G.call call74 (.cons .t1 .nil) (S_wide_Of a0 _ rfl) .nil .nil (fun _ _ => rfl) (fun _ _ => rfl) rfl) (.inr fun _ _ _ h => (h.imp (Ls.of (.cons .k1 .nil))).ro Rs.nil) fun _ _ => ?_
  refine .dpu rfl (.n rfl) (P.iac (i := 0) .t2 rfl .t1 runUnderlying54 sizeOf27 rfl rfl) rfl rfl ?_
  refine .dgo rfl (.n rfl) (G.str .t1 .t0 .k0 (.mk (cs' := (purse_Book.cs ⟨⟨(wide_Of a0), (wide_Of a0)⟩, ⟨(wide_Of a0), (wide_Of a0)⟩, ⟨(wide_Of a0), (wide_Of a0)⟩, ⟨(wide_Of a0), ⟨0, 0, 0, 0⟩⟩, ⟨⟨0, 0, 0, 0⟩, ⟨0, 0, 0, 0⟩⟩, ⟨⟨0, 0, 0, 0⟩, ⟨0, 0, 0, 0⟩⟩, ⟨⟨0, 0, 0, 0⟩, ⟨0, 0, 0, 0⟩⟩, ⟨⟨0, 0, 0, 0⟩, ⟨0, 0, 0, 0⟩⟩⟩)) sizeOf27 rfl rfl rfl rfl)) (.inr fun _ _ _ h => (h.imp (Ls.of (.cons .k1 .nil))).ro Rs.nil) fun _ _ => ?_
  refine .dnil ?_
  refine .inn ?_
  refine .then ?_
  refine .reg rfl ?_
  refine .opp (P.bin (v := N 1) .g0 .k (.addc (by decide))) rfl ?_
  refine .drop .k1 ?_
  refine .opp (P.mov .t0) rfl ?_
  refine .nil ?_
  refine .then ?_
  refine .rd ?_
  refine .seq ?_
  refine .reg rfl ?_
  refine .opp (P.bin (v := Bo true) .g0 .k (BinV.lss.boolc (by decide))) rfl ?_
  refine .nil ?_
  refine .then ?_
  refine .seq ?_
  refine .condT .t0 ?_
  refine .skip ?_
  refine .then ?_
  refine .seq ?_
  refine .block ?_
  refine .seq ?_
  refine .reg rfl ?_
  refine .opp (P.mov .g0) rfl ?_
  refine .opp (P.asg .t0) rfl ?_
  refine .nil ?_
  refine .then ?_
  refine .drawl [blk b1 60 (purse_Book.cs ⟨⟨⟨0, 0, 0, 0⟩, ⟨0, 0, 0, 0⟩⟩, ⟨⟨0, 0, 0, 0⟩, ⟨0, 0, 0, 0⟩⟩, ⟨⟨0, 0, 0, 0⟩, ⟨0, 0, 0, 0⟩⟩, ⟨⟨0, 0, 0, 0⟩, ⟨0, 0, 0, 0⟩⟩, ⟨⟨0, 0, 0, 0⟩, ⟨0, 0, 0, 0⟩⟩, ⟨⟨0, 0, 0, 0⟩, ⟨0, 0, 0, 0⟩⟩, ⟨⟨0, 0, 0, 0⟩, ⟨0, 0, 0, 0⟩⟩, ⟨⟨0, 0, 0, 0⟩, ⟨0, 0, 0, 0⟩⟩⟩)] [] (Ls.of (.cons .k1 .nil)) Rs.nil 7 (.on 0 .pu (.on 1 .pu (.on 2 .pu (.on 4 .pu (.on 3 .go (.on 5 .pu (.on 6 .go .nl))))))) follows_mixed (.inb (.thn (.thn (.inb (.inb (.thn (.thn (.inb (.thn .body))))))))) (by kernel_rfl) ?_
  refine .dpu rfl (.n rfl) (P.mov .g2) rfl rfl ?_
  refine .dpu rfl (.n rfl) (P.mov .t1) rfl rfl ?_
  refine .dpu rfl (.n rfl) (P.mov .g7) rfl rfl ?_
  refine .dpu rfl (.n rfl) (P.iac (i := 3) .t2 rfl .g5 runUnderlying60 sizeOf54 rfl rfl) rfl rfl ?_
  refine .dgo rfl (.n rfl) (G.call call74 (.cons .t1 .nil) (S_wide_Of a0 _ rfl) .nil .nil (fun _ _ => rfl) (fun _ _ => rfl) rfl) (.inr fun _ _ _ h => (h.imp (Ls.of (.cons .k1 .nil))).ro Rs.nil) fun _ _ => ?_
  refine .dpu rfl (.n rfl) (P.iac (i := 1) .t2 rfl .t1 runUnderlying54 sizeOf27 rfl rfl) rfl rfl ?_
  refine .dgo rfl (.n rfl) (G.str .t1 .t0 .k0 (.mk (cs' := (purse_Book.cs ⟨⟨(wide_Of a0), (wide_Of a0)⟩, ⟨(wide_Of a0), (wide_Of a0)⟩, ⟨(wide_Of a0), (wide_Of a0)⟩, ⟨(wide_Of a0), (wide_Of a0)⟩, ⟨⟨0, 0, 0, 0⟩, ⟨0, 0, 0, 0⟩⟩, ⟨⟨0, 0, 0, 0⟩, ⟨0, 0, 0, 0⟩⟩, ⟨⟨0, 0, 0, 0⟩, ⟨0, 0, 0, 0⟩⟩, ⟨⟨0, 0, 0, 0⟩, ⟨0, 0, 0, 0⟩⟩⟩)) sizeOf27 rfl rfl rfl rfl)) (.inr fun _ _ _ h => (h.imp (Ls.of (.cons .k1 .nil))).ro Rs.nil) fun _ _ => ?_
  refine .dnil ?_
  refine .inn ?_
  refine .then ?_
  refine .reg rfl ?_
  refine .opp (P.bin (v := N 2) .g0 .k (.addc (by decide))) rfl ?_
  refine .drop .k1 ?_
  refine .opp (P.mov .t0) rfl ?_
  refine .nil ?_
  refine .then ?_
  refine .rd ?_
  refine .seq ?_
  refine .reg rfl ?_
  refine .opp (P.bin (v := Bo false) .g0 .k (BinV.lss.boolc (by decide))) rfl ?_
  refine .nil ?_
  refine .then ?_
  refine .seq ?_
  refine .condF .t0 ?_
  refine .exit ?_
  refine .thx ?_
  refine .thx ?_
  refine .inb ?_
  refine .inn ?_
  refine .then ?_
  refine .reg rfl ?_
  refine .opp (P.bin (v := N 4) .g2 .k (.addc (by decide))) rfl ?_
  refine .drop .k3 ?_
  refine .opp (P.mov .t0) rfl ?_
  refine .nil ?_
  refine .then ?_
  refine .rd ?_
  refine .seq ?_
  refine .reg rfl ?_
  refine .opp (P.bin (v := Bo true) .g0 .k (BinV.lss.boolc (by decide))) rfl ?_
  refine .nil ?_
  refine .then ?_
  refine .seq ?_
  refine .condT .t0 ?_
  refine .skip ?_
  refine .then ?_
  refine .seq ?_
  refine .block ?_
  refine .seq ?_
  refine .reg rfl ?_
  refine .opp (P.mov .g0) rfl ?_
  refine .drop .k3 ?_
  refine .opp (P.asg .t0) rfl ?_
  refine .nil ?_
  refine .then ?_
  refine .seq ?_
  refine .reg rfl ?_
  refine .drop .k2 ?_
  refine .opp (P.mov .k) rfl ?_
  refine .nil ?_
  refine .then ?_
  refine .block ?_
  refine .rounds 3 ?_
  refine .rd ?_
  refine .seq ?_
  refine .reg rfl ?_
  refine .opp (P.bin (v := Bo true) .g0 .k (BinV.lss.boolc (by decide))) rfl ?_
  refine .nil ?_
  refine .then ?_
  refine .seq ?_
  refine .condT .t0 ?_
  refine .skip ?_
  refine .then ?_
  refine .seq ?_
  refine .block ?_
  refine .seq ?_
  refine .reg rfl ?_
  refine .opp (P.mov .g0) rfl ?_
  refine .opp (P.asg .t0) rfl ?_
  refine .nil ?_
  refine .then ?_
  refine .drawl [blk b1 60 (purse_Book.cs ⟨⟨⟨0, 0, 0, 0⟩, ⟨0, 0, 0, 0⟩⟩, ⟨⟨0, 0, 0, 0⟩, ⟨0, 0, 0, 0⟩⟩, ⟨⟨0, 0, 0, 0⟩, ⟨0, 0, 0, 0⟩⟩, ⟨⟨0, 0, 0, 0⟩, ⟨0, 0, 0, 0⟩⟩, ⟨⟨0, 0, 0, 0⟩, ⟨0, 0, 0, 0⟩⟩, ⟨⟨0, 0, 0, 0⟩, ⟨0, 0, 0, 0⟩⟩, ⟨⟨0, 0, 0, 0⟩, ⟨0, 0, 0, 0⟩⟩, ⟨⟨0, 0, 0, 0⟩, ⟨0, 0, 0, 0⟩⟩⟩)] [] (Ls.of (.cons .k1 .nil)) Rs.nil 7 (.on 0 .pu (.on 1 .pu (.on 2 .pu (.on 4 .pu (.on 3 .go (.on 5 .pu (.on 6 .go .nl))))))) follows_mixed (.inb (.thn (.thn (.inb (.inb (.thn (.thn (.inb (.thn .body))))))))) (by kernel_rfl) ?_
  refine .dpu rfl (.n rfl) (P.mov .g2) rfl rfl ?_
  refine .dpu rfl (.n rfl) (P.mov .t1) rfl rfl ?_
  refine .dpu rfl (.n rfl) (P.mov .g7) rfl rfl ?_
  refine .dpu rfl (.n rfl) (P.iac (i := 4) .t2 rfl .g5 runUnderlying60 sizeOf54 rfl rfl) rfl rfl ?_
  refine .dgo rfl (.n rfl) (G.call call74 (.cons .t1 .nil) (S_wide_Of a0 _ rfl) .nil .nil (fun _ _ => rfl) (fun _ _ => rfl) rfl) (.inr fun _ _ _ h => (h.imp (Ls.of (.cons .k1 .nil))).ro Rs.nil) fun _ _ => ?_
  refine .dpu rfl (.n rfl) (P.iac (i := 0) .t2 rfl .t1 runUnderlying54 sizeOf27 rfl rfl) rfl rfl ?_
  refine .dgo rfl (.n rfl) (G.str .t1 .t0 .k0 (.mk (cs' := (purse_Book.cs ⟨⟨(wide_Of a0), (wide_Of a0)⟩, ⟨(wide_Of a0), (wide_Of a0)⟩, ⟨(wide_Of a0), (wide_Of a0)⟩, ⟨(wide_Of a0), (wide_Of a0)⟩, ⟨(wide_Of a0), ⟨0, 0, 0, 0⟩⟩, ⟨⟨0, 0, 0, 0⟩, ⟨0, 0, 0, 0⟩⟩, ⟨⟨0, 0, 0, 0⟩, ⟨0, 0, 0, 0⟩⟩, ⟨⟨0, 0, 0, 0⟩, ⟨0, 0, 0, 0⟩⟩⟩)) sizeOf27 rfl rfl rfl rfl)) (.inr fun _ _ _ h => (h.imp (Ls.of (.cons .k1 .nil))).ro Rs.nil) fun _ _ => ?_
  refine .dnil ?_
  refine .inn ?_
  refine .then ?_
  refine .reg rfl ?_
  refine .opp (P.bin (v := N 1) .g0 .k (.addc (by decide))) rfl ?_
  refine .drop .k1 ?_
  refine .opp (P.mov .t0) rfl ?_
  refine .nil ?_
  refine .then ?_
  refine .rd ?_
  refine .seq ?_
  refine .reg rfl ?_
  refine .opp (P.bin (v := Bo true) .g0 .k (BinV.lss.boolc (by decide))) rfl ?_
  refine .nil ?_
  refine .then ?_
  refine .seq ?_
  refine .condT .t0 ?_
  refine .skip ?_
  refine .then ?_
  refine .seq ?_
  refine .block ?_
  refine .seq ?_
  refine .reg rfl ?_
  refine .opp (P.mov .g0) rfl ?_
  refine .opp (P.asg .t0) rfl ?_
  refine .nil ?_
  refine .then ?_
  refine .drawl [blk b1 60 (purse_Book.cs ⟨⟨⟨0, 0, 0, 0⟩, ⟨0, 0, 0, 0⟩⟩, ⟨⟨0, 0, 0, 0⟩, ⟨0, 0, 0, 0⟩⟩, ⟨⟨0, 0, 0, 0⟩, ⟨0, 0, 0, 0⟩⟩, ⟨⟨0, 0, 0, 0⟩, ⟨0, 0, 0, 0⟩⟩, ⟨⟨0, 0, 0, 0⟩, ⟨0, 0, 0, 0⟩⟩, ⟨⟨0, 0, 0, 0⟩, ⟨0, 0, 0, 0⟩⟩, ⟨⟨0, 0, 0, 0⟩, ⟨0, 0, 0, 0⟩⟩, ⟨⟨0, 0, 0, 0⟩, ⟨0, 0, 0, 0⟩⟩⟩)] [] (Ls.of (.cons .k1 .nil)) Rs.nil 7 (.on 0 .pu (.on 1 .pu (.on 2 .pu (.on 4 .pu (.on 3 .go (.on 5 .pu (.on 6 .go .nl))))))) follows_mixed (.inb (.thn (.thn (.inb (.inb (.thn (.thn (.inb (.thn .body))))))))) (by kernel_rfl) ?_
  refine .dpu rfl (.n rfl) (P.mov .g2) rfl rfl ?_
  refine .dpu rfl (.n rfl) (P.mov .t1) rfl rfl ?_
  refine .dpu rfl (.n rfl) (P.mov .g7) rfl rfl ?_
  refine .dpu rfl (.n rfl) (P.iac (i := 4) .t2 rfl .g5 runUnderlying60 sizeOf54 rfl rfl) rfl rfl ?_
  refine .dgo rfl (.n rfl) (G.call call74 (.cons .t1 .nil) (S_wide_Of a0 _ rfl) .nil .nil (fun _ _ => rfl) (fun _ _ => rfl) rfl) (.inr fun _ _ _ h => (h.imp (Ls.of (.cons .k1 .nil))).ro Rs.nil) fun _ _ => ?_
  refine .dpu rfl (.n rfl) (P.iac (i := 1) .t2 rfl .t1 runUnderlying54 sizeOf27 rfl rfl) rfl rfl ?_
  refine .dgo rfl (.n rfl) (G.str .t1 .t0 .k0 (.mk (cs' := (purse_Book.cs ⟨⟨(wide_Of a0), (wide_Of a0)⟩, ⟨(wide_Of a0), (wide_Of a0)⟩, ⟨(wide_Of a0), (wide_Of a0)⟩, ⟨(wide_Of a0), (wide_Of a0)⟩, ⟨(wide_Of a0), (wide_Of a0)⟩, ⟨⟨0, 0, 0, 0⟩, ⟨0, 0, 0, 0⟩⟩, ⟨⟨0, 0, 0, 0⟩, ⟨0, 0, 0, 0⟩⟩, ⟨⟨0, 0, 0, 0⟩, ⟨0, 0, 0, 0⟩⟩⟩)) sizeOf27 rfl rfl rfl rfl)) (.inr fun _ _ _ h => (h.imp (Ls.of (.cons .k1 .nil))).ro Rs.nil) fun _ _ => ?_
  refine .dnil ?_
  refine .inn ?_
  refine .then ?_
  refine .reg rfl ?_
  refine .opp (P.bin (v := N 2) .g0 .k (.addc (by decide))) rfl ?_
  refine .drop .k1 ?_
  refine .opp (P.mov .t0) rfl ?_
  refine .nil ?_
  refine .then ?_
  refine .rd ?_
  refine .seq ?_
  refine .reg rfl ?_
  refine .opp (P.bin (v := Bo false) .g0 .k (BinV.lss.boolc (by decide))) rfl ?_
  refine .nil ?_
  refine .then ?_
  refine .seq ?_
  refine .condF .t0 ?_
  refine .exit ?_
  refine .thx ?_
  refine .thx ?_
  refine .inb ?_
  refine .inn ?_
  refine .then ?_
  refine .reg rfl ?_
  refine .opp (P.bin (v := N 5) .g2 .k (.addc (by decide))) rfl ?_
  refine .drop .k3 ?_
  refine .opp (P.mov .t0) rfl ?_
  refine .nil ?_
  refine .then ?_
  refine .rd ?_
  refine .seq ?_
  refine .reg rfl ?_
  refine .opp (P.bin (v := Bo true) .g0 .k (BinV.lss.boolc (by decide))) rfl ?_
  refine .nil ?_
  refine .then ?_
  refine .seq ?_
  refine .condT .t0 ?_
  refine .skip ?_
  refine .then ?_
  refine .seq ?_
  refine .block ?_
  refine .seq ?_
  refine .reg rfl ?_
  refine .opp (P.mov .g0) rfl ?_
  refine .drop .k3 ?_
  refine .opp (P.asg .t0) rfl ?_
  refine .nil ?_
  refine .then ?_
  refine .seq ?_
  refine .reg rfl ?_
  refine .drop .k2 ?_
  refine .opp (P.mov .k) rfl ?_
  refine .nil ?_
  refine .then ?_
  refine .block ?_
  refine .rounds 3 ?_
  refine .rd ?_
  refine .seq ?_
  refine .reg rfl ?_
  refine .opp (P.bin (v := Bo true) .g0 .k (BinV.lss.boolc (by decide))) rfl ?_
  refine .nil ?_
  refine .then ?_
  refine .seq ?_
  refine .condT .t0 ?_
  refine .skip ?_
  refine .then ?_
  refine .seq ?_
  refine .block ?_
  refine .seq ?_
  refine .reg rfl ?_
  refine .opp (P.mov .g0) rfl ?_
  refine .opp (P.asg .t0) rfl ?_
  refine .nil ?_
  refine .then ?_
  refine .drawl [blk b1 60 (purse_Book.cs ⟨⟨⟨0, 0, 0, 0⟩, ⟨0, 0, 0, 0⟩⟩, ⟨⟨0, 0, 0, 0⟩, ⟨0, 0, 0, 0⟩⟩, ⟨⟨0, 0, 0, 0⟩, ⟨0, 0, 0, 0⟩⟩, ⟨⟨0, 0, 0, 0⟩, ⟨0, 0, 0, 0⟩⟩, ⟨⟨0, 0, 0, 0⟩, ⟨0, 0, 0, 0⟩⟩, ⟨⟨0, 0, 0, 0⟩, ⟨0, 0, 0, 0⟩⟩, ⟨⟨0, 0, 0, 0⟩, ⟨0, 0, 0, 0⟩⟩, ⟨⟨0, 0, 0, 0⟩, ⟨0, 0, 0, 0⟩⟩⟩)] [] (Ls.of (.cons .k1 .nil)) Rs.nil 7 (.on 0 .pu (.on 1 .pu (.on 2 .pu (.on 4 .pu (.on 3 .go (.on 5 .pu (.on 6 .go .nl))))))) follows_mixed (.inb (.thn (.thn (.inb (.inb (.thn (.thn (.inb (.thn .body))))))))) (by kernel_rfl) ?_
  refine .dpu rfl (.n rfl) (P.mov .g2) rfl rfl ?_
  refine .dpu rfl (.n rfl) (P.mov .t1) rfl rfl ?_
  refine .dpu rfl (.n rfl) (P.mov .g7) rfl rfl ?_
  refine .dpu rfl (.n rfl) (P.iac (i := 5) .t2 rfl .g5 runUnderlying60 sizeOf54 rfl rfl) rfl rfl ?_
  refine .dgo rfl (.n rfl) (G.call call74 (.cons .t1 .nil) (S_wide_Of a0 _ rfl) .nil .nil (fun _ _ => rfl) (fun _ _ => rfl) rfl) (.inr fun _ _ _ h => (h.imp (Ls.of (.cons .k1 .nil))).ro Rs.nil) fun _ _ => ?_
  refine .dpu rfl (.n rfl) (P.iac (i := 0) .t2 rfl .t1 runUnderlying54 sizeOf27 rfl rfl) rfl rfl ?_
  refine .dgo rfl (.n rfl) (G.str .t1 .t0 .k0 (.mk (cs' := (purse_Book.cs ⟨⟨(wide_Of a0), (wide_Of a0)⟩, ⟨(wide_Of a0), (wide_Of a0)⟩, ⟨(wide_Of a0), (wide_Of a0)⟩, ⟨(wide_Of a0), (wide_Of a0)⟩, ⟨(wide_Of a0), (wide_Of a0)⟩, ⟨(wide_Of a0), ⟨0, 0, 0, 0⟩⟩, ⟨⟨0, 0, 0, 0⟩, ⟨0, 0, 0, 0⟩⟩, ⟨⟨0, 0, 0, 0⟩, ⟨0, 0, 0, 0⟩⟩⟩)) sizeOf27 rfl rfl rfl rfl)) (.inr fun _ _ _ h => (h.imp (Ls.of (.cons .k1 .nil))).ro Rs.nil) fun _ _ => ?_
  refine .dnil ?_
  refine .inn ?_
  refine .then ?_
  refine .reg rfl ?_
  refine .opp (P.bin (v := N 1) .g0 .k (.addc (by decide))) rfl ?_
  refine .drop .k1 ?_
  refine .opp (P.mov .t0) rfl ?_
  refine .nil ?_
  refine .then ?_
  refine .rd ?_
  refine .seq ?_
  refine .reg rfl ?_
  refine .opp (P.bin (v := Bo true) .g0 .k (BinV.lss.boolc (by decide))) rfl ?_
  refine .nil ?_
  refine .then ?_
  refine .seq ?_
  refine .condT .t0 ?_
  refine .skip ?_
  refine .then ?_
  refine .seq ?_
  refine .block ?_
  refine .seq ?_
  refine .reg rfl ?_
  refine .opp (P.mov .g0) rfl ?_
  refine .opp (P.asg .t0) rfl ?_
  refine .nil ?_
  refine .then ?_
  refine .drawl [blk b1 60 (purse_Book.cs ⟨⟨⟨0, 0, 0, 0⟩, ⟨0, 0, 0, 0⟩⟩, ⟨⟨0, 0, 0, 0⟩, ⟨0, 0, 0, 0⟩⟩, ⟨⟨0, 0, 0, 0⟩, ⟨0, 0, 0, 0⟩⟩, ⟨⟨0, 0, 0, 0⟩, ⟨0, 0, 0, 0⟩⟩, ⟨⟨0, 0, 0, 0⟩, ⟨0, 0, 0, 0⟩⟩, ⟨⟨0, 0, 0, 0⟩, ⟨0, 0, 0, 0⟩⟩, ⟨⟨0, 0, 0, 0⟩, ⟨0, 0, 0, 0⟩⟩, ⟨⟨0, 0, 0, 0⟩, ⟨0, 0, 0, 0⟩⟩⟩)] [] (Ls.of (.cons .k1 .nil)) Rs.nil 7 (.on 0 .pu (.on 1 .pu (.on 2 .pu (.on 4 .pu (.on 3 .go (.on 5 .pu (.on 6 .go .nl))))))) follows_mixed (.inb (.thn (.thn (.inb (.inb (.thn (.thn (.inb (.thn .body))))))))) (by kernel_rfl) ?_
  refine .dpu rfl (.n rfl) (P.mov .g2) rfl rfl ?_
  refine .dpu rfl (.n rfl) (P.mov .t1) rfl rfl ?_
  refine .dpu rfl (.n rfl) (P.mov .g7) rfl rfl ?_
  refine .dpu rfl (.n rfl) (P.iac (i := 5) .t2 rfl .g5 runUnderlying60 sizeOf54 rfl rfl) rfl rfl ?_
  refine .dgo rfl (.n rfl) (G.call call74 (.cons .t1 .nil) (S_wide_Of a0 _ rfl) .nil .nil (fun _ _ => rfl) (fun _ _ => rfl) rfl) (.inr fun _ _ _ h => (h.imp (Ls.of (.cons .k1 .nil))).ro Rs.nil) fun _ _ => ?_
  refine .dpu rfl (.n rfl) (P.iac (i := 1) .t2 rfl .t1 runUnderlying54 sizeOf27 rfl rfl) rfl rfl ?_
  refine .dgo rfl (.n rfl) (G.str .t1 .t0 .k0 (.mk (cs' := (purse_Book.cs ⟨⟨(wide_Of a0), (wide_Of a0)⟩, ⟨(wide_Of a0), (wide_Of a0)⟩, ⟨(wide_Of a0), (wide_Of a0)⟩, ⟨(wide_Of a0), (wide_Of a0)⟩, ⟨(wide_Of a0), (wide_Of a0)⟩, ⟨(wide_Of a0), (wide_Of a0)⟩, ⟨⟨0, 0, 0, 0⟩, ⟨0, 0, 0, 0⟩⟩, ⟨⟨0, 0, 0, 0⟩, ⟨0, 0, 0, 0⟩⟩⟩)) sizeOf27 rfl rfl rfl rfl)) (.inr fun _ _ _ h => (h.imp (Ls.of (.cons .k1 .nil))).ro Rs.nil) fun _ _ => ?_
  refine .dnil ?_
  refine .inn ?_
  refine .then ?_
  refine .reg rfl ?_
  refine .opp (P.bin (v := N 2) .g0 .k (.addc (by decide))) rfl ?_
  refine .drop .k1 ?_
  refine .opp (P.mov .t0) rfl ?_
  refine .nil ?_
  refine .then ?_
  refine .rd ?_
  refine .seq ?_
  refine .reg rfl ?_
  refine .opp (P.bin (v := Bo false) .g0 .k (BinV.lss.boolc (by decide))) rfl ?_
  refine .nil ?_
  refine .then ?_
  refine .seq ?_
  refine .condF .t0 ?_
  refine .exit ?_
  refine .thx ?_
  refine .thx ?_
  refine .inb ?_
  refine .inn ?_
  refine .then ?_
  refine .reg rfl ?_
  refine .opp (P.bin (v := N 6) .g2 .k (.addc (by decide))) rfl ?_
  refine .drop .k3 ?_
  refine .opp (P.mov .t0) rfl ?_
  refine .nil ?_
  refine .then ?_
  refine .rd ?_
  refine .seq ?_
  refine .reg rfl ?_
  refine .opp (P.bin (v := Bo true) .g0 .k (BinV.lss.boolc (by decide))) rfl ?_
  refine .nil ?_
  refine .then ?_
  refine .seq ?_
  refine .condT .t0 ?_
  refine .skip ?_
  refine .then ?_
  refine .seq ?_
  refine .block ?_
  refine .seq ?_
  refine .reg rfl ?_
  refine .opp (P.mov .g0) rfl ?_
  refine .drop .k3 ?_
  refine .opp (P.asg .t0) rfl ?_
  refine .nil ?_
  refine .then ?_
  refine .seq ?_
  refine .reg rfl ?_
  refine .drop .k2 ?_
  refine .opp (P.mov .k) rfl ?_
  refine .nil ?_
  refine .then ?_
  refine .block ?_
  refine .rounds 3 ?_
  refine .rd ?_
  refine .seq ?_
  refine .reg rfl ?_
  refine .opp (P.bin (v := Bo true) .g0 .k (BinV.lss.boolc (by decide))) rfl ?_
  refine .nil ?_
  refine .then ?_
  refine .seq ?_
  refine .condT .t0 ?_
  refine .skip ?_
  refine .then ?_
  refine .seq ?_
  refine .block ?_
  refine .seq ?_
  refine .reg rfl ?_
  refine .opp (P.mov .g0) rfl ?_
  refine .opp (P.asg .t0) rfl ?_
  refine .nil ?_
  refine .then ?_
  refine .drawl [blk b1 60 (purse_Book.cs ⟨⟨⟨0, 0, 0, 0⟩, ⟨0, 0, 0, 0⟩⟩, ⟨⟨0, 0, 0, 0⟩, ⟨0, 0, 0, 0⟩⟩, ⟨⟨0, 0, 0, 0⟩, ⟨0, 0, 0, 0⟩⟩, ⟨⟨0, 0, 0, 0⟩, ⟨0, 0, 0, 0⟩⟩, ⟨⟨0, 0, 0, 0⟩, ⟨0, 0, 0, 0⟩⟩, ⟨⟨0, 0, 0, 0⟩, ⟨0, 0, 0, 0⟩⟩, ⟨⟨0, 0, 0, 0⟩, ⟨0, 0, 0, 0⟩⟩, ⟨⟨0, 0, 0, 0⟩, ⟨0, 0, 0, 0⟩⟩⟩)] [] (Ls.of (.cons .k1 .nil)) Rs.nil 7 (.on 0 .pu (.on 1 .pu (.on 2 .pu (.on 4 .pu (.on 3 .go (.on 5 .pu (.on 6 .go .nl))))))) follows_mixed (.inb (.thn (.thn (.inb (.inb (.thn (.thn (.inb (.thn .body))))))))) (by kernel_rfl) ?_
  refine .dpu rfl (.n rfl) (P.mov .g2) rfl rfl ?_
  refine .dpu rfl (.n rfl) (P.mov .t1) rfl rfl ?_
  refine .dpu rfl (.n rfl) (P.mov .g7) rfl rfl ?_
  refine .dpu rfl (.n rfl) (P.iac (i := 6) .t2 rfl .g5 runUnderlying60 sizeOf54 rfl rfl) rfl rfl ?_
  refine .dgo rfl (.n rfl) (G.call call74 (.cons .t1 .nil) (S_wide_Of a0 _ rfl) .nil .nil (fun _ _ => rfl) (fun _ _ => rfl) rfl) (.inr fun _ _ _ h => (h.imp (Ls.of (.cons .k1 .nil))).ro Rs.nil) fun _ _ => ?_
  refine .dpu rfl (.n rfl) (P.iac (i := 0) .t2 rfl .t1 runUnderlying54 sizeOf27 rfl rfl) rfl rfl ?_
  refine .dgo rfl (.n rfl) (G.str .t1 .t0 .k0 (.mk (cs' := (purse_Book.cs ⟨⟨(wide_Of a0), (wide_Of a0)⟩, ⟨(wide_Of a0), (wide_Of a0)⟩, ⟨(wide_Of a0), (wide_Of a0)⟩, ⟨(wide_Of a0), (wide_Of a0)⟩, ⟨(wide_Of a0), (wide_Of a0)⟩, ⟨(wide_Of a0), (wide_Of a0)⟩, ⟨(wide_Of a0), ⟨0, 0, 0, 0⟩⟩, ⟨⟨0, 0, 0, 0⟩, ⟨0, 0, 0, 0⟩⟩⟩)) sizeOf27 rfl rfl rfl rfl)) (.inr fun _ _ _ h => (h.imp (Ls.of (.cons .k1 .nil))).ro Rs.nil) fun _ _ => ?_
  refine .dnil ?_
  refine .inn ?_
  refine .then ?_
  refine .reg rfl ?_
  refine .opp (P.bin (v := N 1) .g0 .k (.addc (by decide))) rfl ?_
  refine .drop .k1 ?_
  refine .opp (P.mov .t0) rfl ?_
  refine .nil ?_
  refine .then ?_
  refine .rd ?_
  refine .seq ?_
  refine .reg rfl ?_
  refine .opp (P.bin (v := Bo true) .g0 .k (BinV.lss.boolc (by decide))) rfl ?_
  refine .nil ?_
  refine .then ?_
  refine .seq ?_
  refine .condT .t0 ?_
  refine .skip ?_
  refine .then ?_
  refine .seq ?_
  refine .block ?_
  refine .seq ?_
  refine .reg rfl ?_
  refine .opp (P.mov .g0) rfl ?_
  refine .opp (P.asg .t0) rfl ?_
  refine .nil ?_
  refine .then ?_
  refine .drawl [blk b1 60 (purse_Book.cs ⟨⟨⟨0, 0, 0, 0⟩, ⟨0, 0, 0, 0⟩⟩, ⟨⟨0, 0, 0, 0⟩, ⟨0, 0, 0, 0⟩⟩, ⟨⟨0, 0, 0, 0⟩, ⟨0, 0, 0, 0⟩⟩, ⟨⟨0, 0, 0, 0⟩, ⟨0, 0, 0, 0⟩⟩, ⟨⟨0, 0, 0, 0⟩, ⟨0, 0, 0, 0⟩⟩, ⟨⟨0, 0, 0, 0⟩, ⟨0, 0, 0, 0⟩⟩, ⟨⟨0, 0, 0, 0⟩, ⟨0, 0, 0, 0⟩⟩, ⟨⟨0, 0, 0, 0⟩, ⟨0, 0, 0, 0⟩⟩⟩)] [] (Ls.of (.cons .k1 .nil)) Rs.nil 7 (.on 0 .pu (.on 1 .pu (.on 2 .pu (.on 4 .pu (.on 3 .go (.on 5 .pu (.on 6 .go .nl))))))) follows_mixed (.inb (.thn (.thn (.inb (.inb (.thn (.thn (.inb (.thn .body))))))))) (by kernel_rfl) ?_
  refine .dpu rfl (.n rfl) (P.mov .g2) rfl rfl ?_
  refine .dpu rfl (.n rfl) (P.mov .t1) rfl rfl ?_
  refine .dpu rfl (.n rfl) (P.mov .g7) rfl rfl ?_
  refine .dpu rfl (.n rfl) (P.iac (i := 6) .t2 rfl .g5 runUnderlying60 sizeOf54 rfl rfl) rfl rfl ?_
  refine .dgo rfl (.n rfl) (G.call call74 (.cons .t1 .nil) (S_wide_Of a0 _ rfl) .nil .nil (fun _ _ => rfl) (fun _ _ => rfl) rfl) (.inr fun _ _ _ h => (h.imp (Ls.of (.cons .k1 .nil))).ro Rs.nil) fun _ _ => ?_
  refine .dpu rfl (.n rfl) (P.iac (i := 1) .t2 rfl .t1 runUnderlying54 sizeOf27 rfl rfl) rfl rfl ?_
  refine .dgo rfl (.n rfl) (G.str .t1 .t0 .k0 (.mk (cs' := (purse_Book.cs ⟨⟨(wide_Of a0), (wide_Of a0)⟩, ⟨(wide_Of a0), (wide_Of a0)⟩, ⟨(wide_Of a0), (wide_Of a0)⟩, ⟨(wide_Of a0), (wide_Of a0)⟩, ⟨(wide_Of a0), (wide_Of a0)⟩, ⟨(wide_Of a0), (wide_Of a0)⟩, ⟨(wide_Of a0), (wide_Of a0)⟩, ⟨⟨0, 0, 0, 0⟩, ⟨0, 0, 0, 0⟩⟩⟩)) sizeOf27 rfl rfl rfl rfl)) (.inr fun _ _ _ h => (h.imp (Ls.of (.cons .k1 .nil))).ro Rs.nil) fun _ _ => ?_
  refine .dnil ?_
  refine .inn ?_
  refine .then ?_
  refine .reg rfl ?_
  refine .opp (P.bin (v := N 2) .g0 .k (.addc (by decide))) rfl ?_
  refine .drop .k1 ?_
  refine .opp (P.mov .t0) rfl ?_
  refine .nil ?_
  refine .then ?_
  refine .rd ?_
  refine .seq ?_
  refine .reg rfl ?_
  refine .opp (P.bin (v := Bo false) .g0 .k (BinV.lss.boolc (by decide))) rfl ?_
  refine .nil ?_
  refine .then ?_
  refine .seq ?_
  refine .condF .t0 ?_
  refine .exit ?_
  refine .thx ?_
  refine .thx ?_
  refine .inb ?_
  refine .inn ?_
  refine .then ?_
  refine .reg rfl ?_
  refine .opp (P.bin (v := N 7) .g2 .k (.addc (by decide))) rfl ?_
  refine .drop .k3 ?_
  refine .opp (P.mov .t0) rfl ?_
  refine .nil ?_
  refine .then ?_
  refine .rd ?_
  refine .seq ?_
  refine .reg rfl ?_
  refine .opp (P.bin (v := Bo true) .g0 .k (BinV.lss.boolc (by decide))) rfl ?_
  refine .nil ?_
  refine .then ?_
  refine .seq ?_
  refine .condT .t0 ?_
  refine .skip ?_
  refine .then ?_
  refine .seq ?_
  refine .block ?_
  refine .seq ?_
  refine .reg rfl ?_
  refine .opp (P.mov .g0) rfl ?_
  refine .drop .k3 ?_
  refine .opp (P.asg .t0) rfl ?_
  refine .nil ?_
  refine .then ?_
  refine .seq ?_
  refine .reg rfl ?_
  refine .drop .k2 ?_
  refine .opp (P.mov .k) rfl ?_
  refine .nil ?_
  refine .then ?_
  refine .block ?_
  refine .rounds 3 ?_
  refine .rd ?_
  refine .seq ?_
  refine .reg rfl ?_
  refine .opp (P.bin (v := Bo true) .g0 .k (BinV.lss.boolc (by decide))) rfl ?_
  refine .nil ?_
  refine .then ?_
  refine .seq ?_
  refine .condT .t0 ?_
  refine .skip ?_
  refine .then ?_
  refine .seq ?_
  refine .block ?_
  refine .seq ?_
  refine .reg rfl ?_
  refine .opp (P.mov .g0) rfl ?_
  refine .opp (P.asg .t0) rfl ?_
  refine .nil ?_
  refine .then ?_
  refine .drawl [blk b1 60 (purse_Book.cs ⟨⟨⟨0, 0, 0, 0⟩, ⟨0, 0, 0, 0⟩⟩, ⟨⟨0, 0, 0, 0⟩, ⟨0, 0, 0, 0⟩⟩, ⟨⟨0, 0, 0, 0⟩, ⟨0, 0, 0, 0⟩⟩, ⟨⟨0, 0, 0, 0⟩, ⟨0, 0, 0, 0⟩⟩, ⟨⟨0, 0, 0, 0⟩, ⟨0, 0, 0, 0⟩⟩, ⟨⟨0, 0, 0, 0⟩, ⟨0, 0, 0, 0⟩⟩, ⟨⟨0, 0, 0, 0⟩, ⟨0, 0, 0, 0⟩⟩, ⟨⟨0, 0, 0, 0⟩, ⟨0, 0, 0, 0⟩⟩⟩)] [] (Ls.of (.cons .k1 .nil)) Rs.nil 7 (.on 0 .pu (.on 1 .pu (.on 2 .pu (.on 4 .pu (.on 3 .go (.on 5 .pu (.on 6 .go .nl))))))) follows_mixed (.inb (.thn (.thn (.inb (.inb (.thn (.thn (.inb (.thn .body))))))))) (by kernel_rfl) ?_
  refine .dpu rfl (.n rfl) (P.mov .g2) rfl rfl ?_
  refine .dpu rfl (.n rfl) (P.mov .t1) rfl rfl ?_
  refine .dpu rfl (.n rfl) (P.mov .g7) rfl rfl ?_
  refine .dpu rfl (.n rfl) (P.iac (i := 7) .t2 rfl .g5 runUnderlying60 sizeOf54 rfl rfl) rfl rfl ?_
  refine .dgo rfl (.n rfl) (G.call call74 (.cons .t1 .nil) (S_wide_Of a0 _ rfl) .nil .nil (fun _ _ => rfl) (fun _ _ => rfl) rfl) (.inr fun _ _ _ h => (h.imp (Ls.of (.cons .k1 .nil))).ro Rs.nil) fun _ _ => ?_
  refine .dpu rfl (.n rfl) (P.iac (i := 0) .t2 rfl .t1 runUnderlying54 sizeOf27 rfl rfl) rfl rfl ?_
  refine .dgo rfl (.n rfl) (G.str .t1 .t0 .k0 (.mk (cs' := (purse_Book.cs ⟨⟨(wide_Of a0), (wide_Of a0)⟩, ⟨(wide_Of a0), (wide_Of a0)⟩, ⟨(wide_Of a0), (wide_Of a0)⟩, ⟨(wide_Of a0), (wide_Of a0)⟩, ⟨(wide_Of a0), (wide_Of a0)⟩, ⟨(wide_Of a0), (wide_Of a0)⟩, ⟨(wide_Of a0), (wide_Of a0)⟩, ⟨(wide_Of a0), ⟨0, 0, 0, 0⟩⟩⟩)) sizeOf27 rfl rfl rfl rfl)) (.inr fun _ _ _ h => (h.imp (Ls.of (.cons .k1 .nil))).ro Rs.nil) fun _ _ => ?_
  refine .dnil ?_
  refine .inn ?_
  refine .then ?_
  refine .reg rfl ?_
  refine .opp (P.bin (v := N 1) .g0 .k (.addc (by decide))) rfl ?_
  refine .drop .k1 ?_
  refine .opp (P.mov .t0) rfl ?_
  refine .nil ?_
  refine .then ?_
  refine .rd ?_
  refine .seq ?_
  refine .reg rfl ?_
  refine .opp (P.bin (v := Bo true) .g0 .k (BinV.lss.boolc (by decide))) rfl ?_
  refine .nil ?_
  refine .then ?_
  refine .seq ?_
  refine .condT .t0 ?_
  refine .skip ?_
  refine .then ?_
  refine .seq ?_
  refine .block ?_
  refine .seq ?_
  refine .reg rfl ?_
  refine .opp (P.mov .g0) rfl ?_
  refine .opp (P.asg .t0) rfl ?_
  refine .nil ?_
  refine .then ?_
  refine .drawl [blk b1 60 (purse_Book.cs ⟨⟨⟨0, 0, 0, 0⟩, ⟨0, 0, 0, 0⟩⟩, ⟨⟨0, 0, 0, 0⟩, ⟨0, 0, 0, 0⟩⟩, ⟨⟨0, 0, 0, 0⟩, ⟨0, 0, 0, 0⟩⟩, ⟨⟨0, 0, 0, 0⟩, ⟨0, 0, 0, 0⟩⟩, ⟨⟨0, 0, 0, 0⟩, ⟨0, 0, 0, 0⟩⟩, ⟨⟨0, 0, 0, 0⟩, ⟨0, 0, 0, 0⟩⟩, ⟨⟨0, 0, 0, 0⟩, ⟨0, 0, 0, 0⟩⟩, ⟨⟨0, 0, 0, 0⟩, ⟨0, 0, 0, 0⟩⟩⟩)] [] (Ls.of (.cons .k1 .nil)) Rs.nil 7 (.on 0 .pu (.on 1 .pu (.on 2 .pu (.on 4 .pu (.on 3 .go (.on 5 .pu (.on 6 .go .nl))))))) follows_mixed (.inb (.thn (.thn (.inb (.inb (.thn (.thn (.inb (.thn .body))))))))) (by kernel_rfl) ?_
  refine .dpu rfl (.n rfl) (P.mov .g2) rfl rfl ?_
  refine .dpu rfl (.n rfl) (P.mov .t1) rfl rfl ?_
  refine .dpu rfl (.n rfl) (P.mov .g7) rfl rfl ?_
  refine .dpu rfl (.n rfl) (P.iac (i := 7) .t2 rfl .g5 runUnderlying60 sizeOf54 rfl rfl) rfl rfl ?_
  refine .dgo rfl (.n rfl) (G.call call74 (.cons .t1 .nil) (S_wide_Of a0 _ rfl) .nil .nil (fun _ _ => rfl) (fun _ _ => rfl) rfl) (.inr fun _ _ _ h => (h.imp (Ls.of (.cons .k1 .nil))).ro Rs.nil) fun _ _ => ?_
  refine .dpu rfl (.n rfl) (P.iac (i := 1) .t2 rfl .t1 runUnderlying54 sizeOf27 rfl rfl) rfl rfl ?_
  refine .dgo rfl (.n rfl) (G.str .t1 .t0 .k0 (.mk (cs' := (purse_Book.cs ⟨⟨(wide_Of a0), (wide_Of a0)⟩, ⟨(wide_Of a0), (wide_Of a0)⟩, ⟨(wide_Of a0), (wide_Of a0)⟩, ⟨(wide_Of a0), (wide_Of a0)⟩, ⟨(wide_Of a0), (wide_Of a0)⟩, ⟨(wide_Of a0), (wide_Of a0)⟩, ⟨(wide_Of a0), (wide_Of a0)⟩, ⟨(wide_Of a0), (wide_Of a0)⟩⟩)) sizeOf27 rfl rfl rfl rfl)) (.inr fun _ _ _ h => (h.imp (Ls.of (.cons .k1 .nil))).ro Rs.nil) fun _ _ => ?_
  refine .dnil ?_
  refine .inn ?_
  refine .then ?_
  refine .reg rfl ?_
  refine .opp (P.bin (v := N 2) .g0 .k (.addc (by decide))) rfl ?_
  refine .drop .k1 ?_
  refine .opp (P.mov .t0) rfl ?_
  refine .nil ?_
  refine .then ?_
  refine .rd ?_
  refine .seq ?_
  refine .reg rfl ?_
  refine .opp (P.bin (v := Bo false) .g0 .k (BinV.lss.boolc (by decide))) rfl ?_
  refine .nil ?_
  refine .then ?_
  refine .seq ?_
  refine .condF .t0 ?_
  refine .exit ?_
  refine .thx ?_
  refine .thx ?_
  refine .inb ?_
  refine .inn ?_
  refine .then ?_
  refine .reg rfl ?_
  refine .opp (P.bin (v := N 8) .g2 .k (.addc (by decide))) rfl ?_
  refine .drop .k3 ?_
  refine .opp (P.mov .t0) rfl ?_
  refine .nil ?_
  refine .then ?_
  refine .rd ?_
  refine .seq ?_
  refine .reg rfl ?_
  refine .opp (P.bin (v := Bo false) .g0 .k (BinV.lss.boolc (by decide))) rfl ?_
  refine .nil ?_
  refine .then ?_
  refine .seq ?_
  refine .condF .t0 ?_
  refine .exit ?_
  refine .thx ?_
  refine .thx ?_
  refine .inb ?_
  refine .then ?_
  refine .seq ?_
  refine .reg rfl ?_
  refine .op (V.ld (v := Ag (purse_Book.cs ⟨⟨(wide_Of a0), (wide_Of a0)⟩, ⟨(wide_Of a0), (wide_Of a0)⟩, ⟨(wide_Of a0), (wide_Of a0)⟩, ⟨(wide_Of a0), (wide_Of a0)⟩, ⟨(wide_Of a0), (wide_Of a0)⟩, ⟨(wide_Of a0), (wide_Of a0)⟩, ⟨(wide_Of a0), (wide_Of a0)⟩, ⟨(wide_Of a0), (wide_Of a0)⟩⟩)) .t3 .k0 (.agg isAgg60 sizeOf60 rfl rfl)) rfl ?_
  refine .opg (G.str .t0 .g3 .k1 (.mk (cs' := (purse_Book.cs ⟨⟨(wide_Of a0), (wide_Of a0)⟩, ⟨(wide_Of a0), (wide_Of a0)⟩, ⟨(wide_Of a0), (wide_Of a0)⟩, ⟨(wide_Of a0), (wide_Of a0)⟩, ⟨(wide_Of a0), (wide_Of a0)⟩, ⟨(wide_Of a0), (wide_Of a0)⟩, ⟨(wide_Of a0), (wide_Of a0)⟩, ⟨(wide_Of a0), (wide_Of a0)⟩⟩)) sizeOf60 rfl rfl rfl rfl)) rfl fun _ _ => ?_
  refine .nil ?_
  refine .then ?_
  refine .ret ?_
  subst h
  exact .finw () (.r1 rfl (.cell .g3 .k0 (.agg isAgg60 sizeOf60 rfl rfl))) trivial (Ls.of .nil) .nil
attribute [irreducible] purse_Even
noncomputable def escrow_Genesis (a0 : Int) (a1 : Int) : escrow_State :=
  (⟨if 1 < if 0 > a0 then 0 else a0 then 1 else if 0 > a0 then 0 else a0, if 1099511627776 < if 0 > a1 then 0 else a1 then 1099511627776 else if 0 > a1 then 0 else a1, (purse_Even 1000), ⟨⟨⟨0, 0, 0, 0⟩, ⟨0, 0, 0, 0⟩⟩, ⟨⟨0, 0, 0, 0⟩, ⟨0, 0, 0, 0⟩⟩, ⟨⟨0, 0, 0, 0⟩, ⟨0, 0, 0, 0⟩⟩, ⟨⟨0, 0, 0, 0⟩, ⟨0, 0, 0, 0⟩⟩, ⟨⟨0, 0, 0, 0⟩, ⟨0, 0, 0, 0⟩⟩, ⟨⟨0, 0, 0, 0⟩, ⟨0, 0, 0, 0⟩⟩, ⟨⟨0, 0, 0, 0⟩, ⟨0, 0, 0, 0⟩⟩, ⟨⟨0, 0, 0, 0⟩, ⟨0, 0, 0, 0⟩⟩⟩, ⟨0, 0, 0, 0, 0, 0, 0, 0⟩, ⟨⟨0, 0, 0, 0⟩, ⟨0, 0, 0, 0⟩⟩, ⟨0, 0, 0, 0⟩, []⟩ : escrow_State)
set_option maxRecDepth 20000 in
set_option maxHeartbeats 1000000 in
theorem S_escrow_Genesis (a0 : Int) (a1 : Int) (r : escrow_State) (h : escrow_Genesis a0 a1 = r) :
    SpecF Try.prog 54 [N a0, N a1] [] [] (fun _ : Value => True) (fun z => Ag (escrow_State.cs r z)) (fun z M =>  M) (fun z M => rows 3 z (r.Locks.map escrow_Lock.cs) ::  M) := by
  refine .of func54 rfl ntmps54 rfl fun w0 D0 G0 => ?_
  unfold escrow_Genesis at h
  refine .seq ?_
  refine .reg rfl ?_
  refine .opx (X.alc (cs := (escrow_State.cs ⟨0, 0, ⟨⟨⟨0, 0, 0, 0⟩, ⟨0, 0, 0, 0⟩⟩, ⟨⟨0, 0, 0, 0⟩, ⟨0, 0, 0, 0⟩⟩, ⟨⟨0, 0, 0, 0⟩, ⟨0, 0, 0, 0⟩⟩, ⟨⟨0, 0, 0, 0⟩, ⟨0, 0, 0, 0⟩⟩, ⟨⟨0, 0, 0, 0⟩, ⟨0, 0, 0, 0⟩⟩, ⟨⟨0, 0, 0, 0⟩, ⟨0, 0, 0, 0⟩⟩, ⟨⟨0, 0, 0, 0⟩, ⟨0, 0, 0, 0⟩⟩, ⟨⟨0, 0, 0, 0⟩, ⟨0, 0, 0, 0⟩⟩⟩, ⟨⟨⟨0, 0, 0, 0⟩, ⟨0, 0, 0, 0⟩⟩, ⟨⟨0, 0, 0, 0⟩, ⟨0, 0, 0, 0⟩⟩, ⟨⟨0, 0, 0, 0⟩, ⟨0, 0, 0, 0⟩⟩, ⟨⟨0, 0, 0, 0⟩, ⟨0, 0, 0, 0⟩⟩, ⟨⟨0, 0, 0, 0⟩, ⟨0, 0, 0, 0⟩⟩, ⟨⟨0, 0, 0, 0⟩, ⟨0, 0, 0, 0⟩⟩, ⟨⟨0, 0, 0, 0⟩, ⟨0, 0, 0, 0⟩⟩, ⟨⟨0, 0, 0, 0⟩, ⟨0, 0, 0, 0⟩⟩⟩, ⟨0, 0, 0, 0, 0, 0, 0, 0⟩, ⟨⟨0, 0, 0, 0⟩, ⟨0, 0, 0, 0⟩⟩, ⟨0, 0, 0, 0⟩, []⟩ nilSl)) zeroValue64 rfl) rfl fun b1 => ?_
  refine .nil ?_
  refine .then ?_
  refine .seq ?_
  refine .reg rfl ?_
  refine .opp (P.mov .t1) rfl ?_
  refine .opp (P.max2 .t0 .k) rfl ?_
  refine .opp (P.min2 .t0 .k) rfl ?_
  refine .opp (P.mov .t2) rfl ?_
  refine .opp (P.max2 .t0 .k) rfl ?_
  refine .opp (P.min2 .t0 .k) rfl ?_
  refine .opg (G.call call112 (.cons .k .nil) (S_purse_Even 1000 _ rfl) .nil .nil (fun _ _ => rfl) (fun _ _ => rfl) rfl) rfl fun _ _ => ?_
  refine .opp (P.bld (v := Ag (escrow_State.cs ⟨if 1 < if 0 > a0 then 0 else a0 then 1 else if 0 > a0 then 0 else a0, if 1099511627776 < if 0 > a1 then 0 else a1 then 1099511627776 else if 0 > a1 then 0 else a1, (purse_Even 1000), ⟨⟨⟨0, 0, 0, 0⟩, ⟨0, 0, 0, 0⟩⟩, ⟨⟨0, 0, 0, 0⟩, ⟨0, 0, 0, 0⟩⟩, ⟨⟨0, 0, 0, 0⟩, ⟨0, 0, 0, 0⟩⟩, ⟨⟨0, 0, 0, 0⟩, ⟨0, 0, 0, 0⟩⟩, ⟨⟨0, 0, 0, 0⟩, ⟨0, 0, 0, 0⟩⟩, ⟨⟨0, 0, 0, 0⟩, ⟨0, 0, 0, 0⟩⟩, ⟨⟨0, 0, 0, 0⟩, ⟨0, 0, 0, 0⟩⟩, ⟨⟨0, 0, 0, 0⟩, ⟨0, 0, 0, 0⟩⟩⟩, ⟨0, 0, 0, 0, 0, 0, 0, 0⟩, ⟨⟨0, 0, 0, 0⟩, ⟨0, 0, 0, 0⟩⟩, ⟨0, 0, 0, 0⟩, []⟩ nilSl)) (.cons .t2 (.cons .t1 (.cons .t0 .nil))) (bld_run zeroValue64 runUnderlying64 pl_64 (by kernel_rfl))) rfl ?_
  refine .opg (G.str .t0 .g0 .k0 (.mk (cs' := (escrow_State.cs ⟨if 1 < if 0 > a0 then 0 else a0 then 1 else if 0 > a0 then 0 else a0, if 1099511627776 < if 0 > a1 then 0 else a1 then 1099511627776 else if 0 > a1 then 0 else a1, (purse_Even 1000), ⟨⟨⟨0, 0, 0, 0⟩, ⟨0, 0, 0, 0⟩⟩, ⟨⟨0, 0, 0, 0⟩, ⟨0, 0, 0, 0⟩⟩, ⟨⟨0, 0, 0, 0⟩, ⟨0, 0, 0, 0⟩⟩, ⟨⟨0, 0, 0, 0⟩, ⟨0, 0, 0, 0⟩⟩, ⟨⟨0, 0, 0, 0⟩, ⟨0, 0, 0, 0⟩⟩, ⟨⟨0, 0, 0, 0⟩, ⟨0, 0, 0, 0⟩⟩, ⟨⟨0, 0, 0, 0⟩, ⟨0, 0, 0, 0⟩⟩, ⟨⟨0, 0, 0, 0⟩, ⟨0, 0, 0, 0⟩⟩⟩, ⟨0, 0, 0, 0, 0, 0, 0, 0⟩, ⟨⟨0, 0, 0, 0⟩, ⟨0, 0, 0, 0⟩⟩, ⟨0, 0, 0, 0⟩, []⟩ nilSl)) sizeOf64 rfl (onez_64 _ rfl) rfl rfl)) rfl fun _ _ => ?_
  refine .nil ?_
  refine .then ?_
  refine .ret ?_
  subst h
  refine .rnil0 3 ?_
  exact .finw nilSl (.r1 rfl (.cell .g0 .k0 (.agg isAgg64 sizeOf64 rfl rfl))) trivial (Ls.of .nil) (.cons Mm.m0 .nil)
attribute [irreducible] escrow_Genesis
noncomputable def scan_Deals (a0 : List api_Event) : Option ((List api_Tx)) :=
  Option.bind (loopR (fun (i1 : Nat) (e4 : api_Event) (s2 : (List api_Tx)) => Option.bind (thn (if (decide (e4.Code = 0)) = true then (decide (e4.Tx.Kind = 4)) else false) fun (y22 : Bool) => if y22 = true then (grd ((s2.length + ([e4.Tx] : List api_Tx).length) * 224 ≤ 140737488355328) <| some ((s2 ++ ([e4.Tx] : List api_Tx)))) else (some s2)) fun (y15 : (List api_Tx)) => some (.nx y15)) 0 a0 ([])) fun o5 => Lo.on o5 fun (s2 : (List api_Tx)) => some s2
set_option maxRecDepth 20000 in
set_option maxHeartbeats 1000000 in
theorem S_scan_Deals (v00 : Value) (a0 : List api_Event) (r : (List api_Tx)) (h : scan_Deals a0 = some r) :
    SpecF Try.prog 37 [v00] [] [rows 27 v00 (a0.map api_Event.cs)] (fun _ : Value => True) (fun z => z) (fun z M => lst 36 25 z (r.map api_Tx.cs) ::  M) (fun z M =>  M) := by
  refine .of func37 rfl ntmps37 rfl fun w0 D0 G0 => ?_
  unfold scan_Deals at h
  refine .seq ?_
  refine .reg rfl ?_
  refine .op0 (OpP.toV (P.asg .k)) rfl ?_
  refine .nil ?_
  refine .then ?_
  refine .seq ?_
  refine .reg rfl ?_
  refine .opp (P.asg .k) rfl ?_
  refine .nil ?_
  refine .then ?_
  refine .seq ?_
  refine .seq ?_
  refine .reg rfl ?_
  refine .opp (P.mov .t1) rfl ?_
  refine .op (V.lnr (n := a0.length) .g0 Mm.m0 map_len runUnderlying22) rfl ?_
  refine .opp (P.mov .k) rfl ?_
  refine .nil ?_
  refine .then ?_
  refine .block ?_
  refine .lnil 36 25 ?_
  obtain ⟨o5, ho6, h⟩ := bnd_eq h
  refine .lenq Mm.m0 fun hl12 => ?_
  rw [map_len] at hl12
  refine .loopR (γ := Value) (fun i1 (s2 : (List api_Tx)) z3 => [(8, N ((i1 : Int))), (7, N ((a0.length : Int))), (6, v00), (3, z3)]) (fun (s2 : (List api_Tx)) z3 => [lst 36 25 z3 (s2.map api_Tx.cs)]) (fun (s2 : (List api_Tx)) z3 => [rows 27 v00 (a0.map api_Event.cs)]) nilSl ho6 (.cons Mm.m0 (.cons Mm.m1 (.cons Mm.m2 (.cons Mm.m3 .nil)))) (.of (.cons .k0 .nil)) (.cons Mm.m0 .nil) (fun i1 s2 z3 hi13 hr9 => ?_)
  refine .seq ?_
  refine .reg rfl ?_
  refine .opp (P.bin (v := Bo (decide ((i1 : Int) < (a0.length : Nat)))) .g0 .g1 .lss) rfl ?_
  refine .nil ?_
  refine .then ?_
  refine .seq ?_
  refine .cond .t0 (fun c14 => ?_) (fun c14 => ?_)
  · obtain ⟨e4, hx11⟩ := get_of c14
    obtain ⟨ct10, hc7, hn8⟩ := loopR_at hx11 hr9
    refine .skip ?_
    refine .then ?_
    obtain ⟨y15, hj17, hc7⟩ := bnd_eq hc7
    refine .cutx (γ := Value) (E1 := fun z16 => [(3, z16), (8, N ((i1 : Int))), (7, N ((a0.length : Int))), (6, v00)]) (L1 := fun z16 => [lst 36 25 z16 (y15.map api_Tx.cs)]) (R1 := fun z16 => [rows 27 v00 (a0.map api_Event.cs)]) ?_ (fun z16 => ?_)
    · clear hc7
      refine .block ?_
      refine .seq ?_
      refine .reg rfl ?_
      refine .ixq Mm.m0 (map_get hx11) fun p18 q19 hq20 => ?_
      refine .opp (P.ixi (i := i1) .g0 rfl .g2 hq20 runUnderlying22 sizeOf38) rfl ?_
      refine .op (V.ldx0 (u := Ag (api_Event.cs e4)) .t0 hq20 Mm.m0 (map_get hx11) (.agg isAgg38 sizeOf38 rfl rfl)) rfl ?_
      refine .opx (X.alc (cs := (api_Event.cs ⟨0, 0, ⟨0, 0, 0, 0, ⟨0, 0, 0, 0⟩, ⟨0, ⟨#[]⟩, 0, 0, 0, 0, ⟨#[]⟩⟩, ⟨⟨0, 0, 0, 0⟩, 0⟩, ⟨0, 0, 0, 0⟩, ⟨#[]⟩⟩⟩)) zeroValue38 rfl) rfl fun b21 => ?_
      refine .opg (G.str .t1 .g0 .k0 (.mk (cs' := (api_Event.cs e4)) sizeOf38 rfl rfl rfl rfl)) rfl fun _ _ => ?_
      refine .nil ?_
      refine .then ?_
      obtain ⟨y22, hj24, hj17⟩ := thn_eq hj17
      refine .cutx (γ := Unit) (E1 := fun z23 => [(20, Bo y22), (5, pt b21 0), (8, N ((i1 : Int))), (7, N ((a0.length : Int))), (6, v00), (3, z3)]) (L1 := fun z23 => [blk b21 38 (api_Event.cs e4), lst 36 25 z3 (s2.map api_Tx.cs)]) (R1 := fun z23 => [rows 27 v00 (a0.map api_Event.cs)]) ?_ (fun z23 => ?_)
      · clear hj17
        refine .reg rfl ?_
        refine .opp (P.fa .g0 fa_38_1 rfl) rfl ?_
        refine .op (V.ld (v := N e4.Code) .t0 .k0 (.one isAgg30 rfl)) rfl ?_
        refine .opp (P.bin .t0 .k .eql) rfl ?_
        refine .opp (P.mov .t0) rfl ?_
        refine .split .k0 (fun c25 => ?_) (fun c25 => ?_)
        · rw [if_pos c25] at hj24
          refine .gyes rfl .g0 ?_
          refine .opp (P.fa .g1 fa_38_2 rfl) rfl ?_
          refine .gyes rfl .g1 ?_
          refine .opp (P.fa .t0 fa_36_2 rfl) rfl ?_
          refine .gyes rfl .g1 ?_
          refine .op (V.ld (v := N e4.Tx.Kind) .t0 .k0 (.one isAgg3 rfl)) rfl ?_
          refine .gyes rfl .g1 ?_
          refine .opp (P.bin .t0 .k .eql) rfl ?_
          refine .opp (P.pickT .t1 .t0) rfl ?_
          refine .nil ?_
          subst hj24
          exact .stj () (.cons Mm.m0 (.cons Mm.m1 (.cons Mm.m2 (.cons Mm.m3 (.cons Mm.m4 (.cons Mm.m5 .nil)))))) (.of (.cons .k0 (.cons .k0 .nil))) (.cons Mm.m0 .nil)
        · rw [if_neg (ne_true_of_eq_false c25)] at hj24
          refine .gno rfl .g0 rfl rfl ?_
          refine .gno rfl .g0 rfl rfl ?_
          refine .gno rfl .g0 rfl rfl ?_
          refine .gno rfl .g0 rfl rfl ?_
          refine .opp (P.pickF .t0 .k) rfl ?_
          refine .nil ?_
          subst hj24
          exact .stj () (.cons Mm.m0 (.cons Mm.m1 (.cons Mm.m2 (.cons Mm.m3 (.cons Mm.m4 (.cons Mm.m5 .nil)))))) (.of (.cons .k0 (.cons .k0 .nil))) (.cons Mm.m0 .nil)
      · clear hj24
        refine .cond .t0 (fun c26 => ?_) (fun c26 => ?_)
        · rw [if_pos c26] at hj17
          refine .reg rfl ?_
          refine .opp (P.mov .g4) rfl ?_
          refine .opp (P.fa .t1 fa_38_2 rfl) rfl ?_
          refine .op (V.ld (v := Ag (api_Tx.cs e4.Tx)) .t0 .k0 (.agg isAgg36 sizeOf36 rfl rfl)) rfl ?_
          refine .opg (G.bsl (cs := (api_Tx.cs e4.Tx)) .t0 runUnderlying80 sizeOf36 zeroValue36 rfl rfl rfl rfl rfl) rfl fun u27 _ => ?_
          obtain ⟨hb29, hj17⟩ := grd_eq hj17
          refine .opg (G.app (by_ := 224) .t1 .t0 .k2 (.inr (.inr ⟨_, Mm.m0⟩)) runUnderlying80 runUnderlying80 sizeOf36 typeInfo36 rfl rfl zeroValue36 rfl rfl (by simpa using hb29) rfl) rfl fun u28 _ => ?_
          refine .conseq .k0 (q := lst 36 25 u28 (((s2 ++ ([e4.Tx] : List api_Tx))).map api_Tx.cs)) (fun _ hh => by simpa [List.map_append] using hh) ?_
          refine .drop .k4 ?_
          refine .opp (P.asg .t0) rfl ?_
          refine .nil ?_
          refine .inn ?_
          cases hj17
          exact .stj u28 (.cons Mm.m0 (.cons Mm.m1 (.cons Mm.m2 (.cons Mm.m3 .nil)))) (.of (.cons .k0 .nil)) (.cons Mm.m0 .nil)
        · rw [if_neg (ne_true_of_eq_false c26)] at hj17
          refine .skip ?_
          refine .inn ?_
          cases hj17
          exact .stj z3 (.cons Mm.m4 (.cons Mm.m1 (.cons Mm.m2 (.cons Mm.m3 .nil)))) (.of (.cons .k1 .nil)) (.cons Mm.m0 .nil)
    · clear hj17
      refine .reg rfl ?_
      refine .opp (P.bin .g1 .k (.addc (inc_ok (lt_of_get hx11) hl12))) rfl ?_
      refine .drop .k2 ?_
      refine .opp (P.mov .t0) rfl ?_
      refine .nil ?_
      cases hc7
      exact .rdR y15 z16 hn8 (lt_of_get hx11) (.cons Mm.m0 (.cons Mm.m2 (.cons Mm.m3 (.cons Mm.m1 .nil)))) (.of (.cons .k0 .nil)) (.cons Mm.m0 .nil)
  · obtain rfl := loopR_end (le_of_not c14) hr9
    have h := dn_on h
    refine .exit ?_
    refine .thx ?_
    refine .thx ?_
    refine .inb ?_
    refine .then ?_
    refine .seq ?_
    refine .reg rfl ?_
    refine .opp (P.mov .t3) rfl ?_
    refine .opp (P.asg .t0) rfl ?_
    refine .nil ?_
    refine .then ?_
    refine .ret ?_
    cases h
    exact .finw z3 (.r1 rfl (.tmp .g0)) trivial (Ls.of (.cons .k0 .nil)) .nil
attribute [irreducible] scan_Deals
noncomputable def exposure_asset (a0 : Int) (a1 : api_Inv) : Int :=
  if (decide (a0 = 1)) = true then a1.Recv else a1.Send
set_option maxRecDepth 20000 in
set_option maxHeartbeats 1000000 in
theorem S_exposure_asset (a0 : Int) (a1 : api_Inv) (r : Int) (h : exposure_asset a0 a1 = r) :
    SpecF Try.prog 132 [N a0, Ag (api_Inv.cs a1)] [] [] (fun _ : Unit => True) (fun z => N r) (fun z M =>  M) (fun z M =>  M) := by
  refine .of func132 rfl ntmps132 rfl fun w0 D0 G0 => ?_
  unfold exposure_asset at h
  refine .seq ?_
  refine .reg rfl ?_
  refine .opx (X.box (cs := (api_Inv.cs a1)) .t1 rfl) rfl fun b1 => ?_
  refine .op0 (OpP.toV (P.asg .k)) rfl ?_
  refine .nil ?_
  refine .then ?_
  refine .seq ?_
  refine .seq ?_
  refine .reg rfl ?_
  refine .opp (P.mov .t1) rfl ?_
  refine .opp (P.bin .t0 .k .eql) rfl ?_
  refine .nil ?_
  refine .then ?_
  refine .cond .t0 (fun c2 => ?_) (fun c2 => ?_)
  · rw [if_pos c2] at h
    refine .seq ?_
    refine .reg rfl ?_
    refine .opp (P.fa .t0 fa_32_4 rfl) rfl ?_
    refine .op (V.ld (v := N a1.Recv) .t0 .k0 (.one isAgg3 rfl)) rfl ?_
    refine .opp (P.asg .t0) rfl ?_
    refine .nil ?_
    refine .then ?_
    refine .ret ?_
    refine .thr ?_
    subst h
    exact .finw () (.r1 rfl (.tmp .g0)) trivial (Ls.of .nil) .nil
  · rw [if_neg (ne_true_of_eq_false c2)] at h
    refine .skip ?_
    refine .then ?_
    refine .seq ?_
    refine .reg rfl ?_
    refine .opp (P.fa .t0 fa_32_3 rfl) rfl ?_
    refine .op (V.ld (v := N a1.Send) .t0 .k0 (.one isAgg3 rfl)) rfl ?_
    refine .opp (P.asg .t0) rfl ?_
    refine .nil ?_
    refine .then ?_
    refine .ret ?_
    subst h
    exact .finw () (.r1 rfl (.tmp .g0)) trivial (Ls.of .nil) .nil
attribute [irreducible] exposure_asset
noncomputable def exposure_known (a0 : Int) : Bool :=
  thn (if (decide (a0 ≥ 0)) = true then (decide (a0 < 2)) else false) fun (y1 : Bool) => y1
set_option maxRecDepth 20000 in
set_option maxHeartbeats 1000000 in
theorem S_exposure_known (a0 : Int) (r : Bool) (h : exposure_known a0 = r) :
    SpecF Try.prog 90 [N a0] [] [] (fun _ : Unit => True) (fun z => Bo r) (fun z M =>  M) (fun z M =>  M) := by
  refine .of func90 rfl ntmps90 rfl fun w0 D0 G0 => ?_
  unfold exposure_known at h
  refine .seq ?_
  refine .reg rfl ?_
  refine .op0 (OpP.toV (P.asg .k)) rfl ?_
  refine .nil ?_
  refine .then ?_
  obtain ⟨y1, hj3, h⟩ := thn_eq h
  refine .cutx (γ := Unit) (E1 := fun z2 => [(2, Bo y1)]) (L1 := fun z2 => []) (R1 := fun z2 => []) ?_ (fun z2 => ?_)
  · clear h
    refine .reg rfl ?_
    refine .opp (P.mov .g0) rfl ?_
    refine .opp (P.bin .t0 .k .geq) rfl ?_
    refine .opp (P.mov .t0) rfl ?_
    refine .split .k0 (fun c4 => ?_) (fun c4 => ?_)
    · rw [if_pos c4] at hj3
      refine .gyes rfl .g0 ?_
      refine .opp (P.mov .t1) rfl ?_
      refine .gyes rfl .g1 ?_
      refine .opp (P.bin .t0 .k .lss) rfl ?_
      refine .opp (P.pickT .t1 .t0) rfl ?_
      refine .opp (P.asg .t0) rfl ?_
      refine .nil ?_
      subst hj3
      exact .stj () (.cons Mm.m0 .nil) (.of .nil) .nil
    · rw [if_neg (ne_true_of_eq_false c4)] at hj3
      refine .gno rfl .g0 rfl rfl ?_
      refine .gno rfl .g0 rfl rfl ?_
      refine .opp (P.pickF .t0 .k) rfl ?_
      refine .opp (P.asg .t0) rfl ?_
      refine .nil ?_
      subst hj3
      exact .stj () (.cons Mm.m0 .nil) (.of .nil) .nil
  · clear hj3
    refine .ret ?_
    subst h
    exact .finw () (.r1 rfl (.tmp .g0)) trivial (Ls.of .nil) .nil
attribute [irreducible] exposure_known
end Go.Sl
