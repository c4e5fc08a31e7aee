/- Walked code of the program, its pure functions and their contracts. -/
import Derived.Test.YteijfoldbinghaaSlGw0
set_option linter.unusedVariables false
set_option linter.unusedSimpArgs false
namespace Go.Sl
open Go.Proofs Go.Proofs.Try
structure A2_api_Wide where
  a0 : api_Wide
  a1 : api_Wide
  deriving DecidableEq
def A2_api_Wide.cs (x : A2_api_Wide) : List Value := [U x.a0.a0, U x.a0.a1, U x.a0.a2, U x.a0.a3, U x.a1.a0, U x.a1.a1, U x.a1.a2, U x.a1.a3]
def A2_api_Wide.list (x : A2_api_Wide) : List api_Wide := [x.a0, x.a1]
def A2_api_Wide.set (x : A2_api_Wide) (k : Nat) (v : api_Wide) : A2_api_Wide := ⟨if k = 0 then v else x.a0, if k = 1 then v else x.a1⟩
def A2_api_Wide.z : A2_api_Wide := ⟨api_Wide.z, api_Wide.z⟩
structure purse_Book where
  a0 : A2_api_Wide
  a1 : A2_api_Wide
  a2 : A2_api_Wide
  a3 : A2_api_Wide
  a4 : A2_api_Wide
  a5 : A2_api_Wide
  a6 : A2_api_Wide
  a7 : A2_api_Wide
  deriving DecidableEq
def purse_Book.cs (x : purse_Book) : List Value := [U x.a0.a0.a0, U x.a0.a0.a1, U x.a0.a0.a2, U x.a0.a0.a3, U x.a0.a1.a0, U x.a0.a1.a1, U x.a0.a1.a2, U x.a0.a1.a3, U x.a1.a0.a0, U x.a1.a0.a1, U x.a1.a0.a2, U x.a1.a0.a3, U x.a1.a1.a0, U x.a1.a1.a1, U x.a1.a1.a2, U x.a1.a1.a3, U x.a2.a0.a0, U x.a2.a0.a1, U x.a2.a0.a2, U x.a2.a0.a3, U x.a2.a1.a0, U x.a2.a1.a1, U x.a2.a1.a2, U x.a2.a1.a3, U x.a3.a0.a0, U x.a3.a0.a1, U x.a3.a0.a2, U x.a3.a0.a3, U x.a3.a1.a0, U x.a3.a1.a1, U x.a3.a1.a2, U x.a3.a1.a3, U x.a4.a0.a0, U x.a4.a0.a1, U x.a4.a0.a2, U x.a4.a0.a3, U x.a4.a1.a0, U x.a4.a1.a1, U x.a4.a1.a2, U x.a4.a1.a3, U x.a5.a0.a0, U x.a5.a0.a1, U x.a5.a0.a2, U x.a5.a0.a3, U x.a5.a1.a0, U x.a5.a1.a1, U x.a5.a1.a2, U x.a5.a1.a3, U x.a6.a0.a0, U x.a6.a0.a1, U x.a6.a0.a2, U x.a6.a0.a3, U x.a6.a1.a0, U x.a6.a1.a1, U x.a6.a1.a2, U x.a6.a1.a3, U x.a7.a0.a0, U x.a7.a0.a1, U x.a7.a0.a2, U x.a7.a0.a3, U x.a7.a1.a0, U x.a7.a1.a1, U x.a7.a1.a2, U x.a7.a1.a3]
def purse_Book.list (x : purse_Book) : List A2_api_Wide := [x.a0, x.a1, x.a2, x.a3, x.a4, x.a5, x.a6, x.a7]
def purse_Book.set (x : purse_Book) (k : Nat) (v : A2_api_Wide) : purse_Book := ⟨if k = 0 then v else x.a0, if k = 1 then v else x.a1, if k = 2 then v else x.a2, if k = 3 then v else x.a3, if k = 4 then v else x.a4, if k = 5 then v else x.a5, if k = 6 then v else x.a6, if k = 7 then v else x.a7⟩
def purse_Book.z : purse_Book := ⟨A2_api_Wide.z, A2_api_Wide.z, A2_api_Wide.z, A2_api_Wide.z, A2_api_Wide.z, A2_api_Wide.z, A2_api_Wide.z, A2_api_Wide.z⟩
structure A8_i64 where
  a0 : Int
  a1 : Int
  a2 : Int
  a3 : Int
  a4 : Int
  a5 : Int
  a6 : Int
  a7 : Int
  deriving DecidableEq
def A8_i64.cs (x : A8_i64) : List Value := [N x.a0, N x.a1, N x.a2, N x.a3, N x.a4, N x.a5, N x.a6, N x.a7]
def A8_i64.list (x : A8_i64) : List Int := [x.a0, x.a1, x.a2, x.a3, x.a4, x.a5, x.a6, x.a7]
def A8_i64.set (x : A8_i64) (k : Nat) (v : Int) : A8_i64 := ⟨if k = 0 then v else x.a0, if k = 1 then v else x.a1, if k = 2 then v else x.a2, if k = 3 then v else x.a3, if k = 4 then v else x.a4, if k = 5 then v else x.a5, if k = 6 then v else x.a6, if k = 7 then v else x.a7⟩
def A8_i64.z : A8_i64 := ⟨0, 0, 0, 0, 0, 0, 0, 0⟩
structure escrow_Lock where
  Key : ByteArray
  Digest : ByteArray
  Status : Int
  deriving DecidableEq
def escrow_Lock.cs (x : escrow_Lock) : List Value := [.string x.Key, .string x.Digest, N x.Status]
def escrow_Lock.z : escrow_Lock := ⟨⟨#[]⟩, ⟨#[]⟩, 0⟩
structure escrow_State where
  Side : Int
  Time : Int
  Purse : purse_Book
  Vault : purse_Book
  Nonces : A8_i64
  Held : A2_api_Wide
  Burnt : api_Wide
  Locks : List escrow_Lock
  deriving DecidableEq
def escrow_State.cs (x : escrow_State) (z0 : Value) : List Value := [N x.Side, N x.Time, U x.Purse.a0.a0.a0, U x.Purse.a0.a0.a1, U x.Purse.a0.a0.a2, U x.Purse.a0.a0.a3, U x.Purse.a0.a1.a0, U x.Purse.a0.a1.a1, U x.Purse.a0.a1.a2, U x.Purse.a0.a1.a3, U x.Purse.a1.a0.a0, U x.Purse.a1.a0.a1, U x.Purse.a1.a0.a2, U x.Purse.a1.a0.a3, U x.Purse.a1.a1.a0, U x.Purse.a1.a1.a1, U x.Purse.a1.a1.a2, U x.Purse.a1.a1.a3, U x.Purse.a2.a0.a0, U x.Purse.a2.a0.a1, U x.Purse.a2.a0.a2, U x.Purse.a2.a0.a3, U x.Purse.a2.a1.a0, U x.Purse.a2.a1.a1, U x.Purse.a2.a1.a2, U x.Purse.a2.a1.a3, U x.Purse.a3.a0.a0, U x.Purse.a3.a0.a1, U x.Purse.a3.a0.a2, U x.Purse.a3.a0.a3, U x.Purse.a3.a1.a0, U x.Purse.a3.a1.a1, U x.Purse.a3.a1.a2, U x.Purse.a3.a1.a3, U x.Purse.a4.a0.a0, U x.Purse.a4.a0.a1, U x.Purse.a4.a0.a2, U x.Purse.a4.a0.a3, U x.Purse.a4.a1.a0, U x.Purse.a4.a1.a1, U x.Purse.a4.a1.a2, U x.Purse.a4.a1.a3, U x.Purse.a5.a0.a0, U x.Purse.a5.a0.a1, U x.Purse.a5.a0.a2, U x.Purse.a5.a0.a3, U x.Purse.a5.a1.a0, U x.Purse.a5.a1.a1, U x.Purse.a5.a1.a2, U x.Purse.a5.a1.a3, U x.Purse.a6.a0.a0, U x.Purse.a6.a0.a1, U x.Purse.a6.a0.a2, U x.Purse.a6.a0.a3, U x.Purse.a6.a1.a0, U x.Purse.a6.a1.a1, U x.Purse.a6.a1.a2, U x.Purse.a6.a1.a3, U x.Purse.a7.a0.a0, U x.Purse.a7.a0.a1, U x.Purse.a7.a0.a2, U x.Purse.a7.a0.a3, U x.Purse.a7.a1.a0, U x.Purse.a7.a1.a1, U x.Purse.a7.a1.a2, U x.Purse.a7.a1.a3, U x.Vault.a0.a0.a0, U x.Vault.a0.a0.a1, U x.Vault.a0.a0.a2, U x.Vault.a0.a0.a3, U x.Vault.a0.a1.a0, U x.Vault.a0.a1.a1, U x.Vault.a0.a1.a2, U x.Vault.a0.a1.a3, U x.Vault.a1.a0.a0, U x.Vault.a1.a0.a1, U x.Vault.a1.a0.a2, U x.Vault.a1.a0.a3, U x.Vault.a1.a1.a0, U x.Vault.a1.a1.a1, U x.Vault.a1.a1.a2, U x.Vault.a1.a1.a3, U x.Vault.a2.a0.a0, U x.Vault.a2.a0.a1, U x.Vault.a2.a0.a2, U x.Vault.a2.a0.a3, U x.Vault.a2.a1.a0, U x.Vault.a2.a1.a1, U x.Vault.a2.a1.a2, U x.Vault.a2.a1.a3, U x.Vault.a3.a0.a0, U x.Vault.a3.a0.a1, U x.Vault.a3.a0.a2, U x.Vault.a3.a0.a3, U x.Vault.a3.a1.a0, U x.Vault.a3.a1.a1, U x.Vault.a3.a1.a2, U x.Vault.a3.a1.a3, U x.Vault.a4.a0.a0, U x.Vault.a4.a0.a1, U x.Vault.a4.a0.a2, U x.Vault.a4.a0.a3, U x.Vault.a4.a1.a0, U x.Vault.a4.a1.a1, U x.Vault.a4.a1.a2, U x.Vault.a4.a1.a3, U x.Vault.a5.a0.a0, U x.Vault.a5.a0.a1, U x.Vault.a5.a0.a2, U x.Vault.a5.a0.a3, U x.Vault.a5.a1.a0, U x.Vault.a5.a1.a1, U x.Vault.a5.a1.a2, U x.Vault.a5.a1.a3, U x.Vault.a6.a0.a0, U x.Vault.a6.a0.a1, U x.Vault.a6.a0.a2, U x.Vault.a6.a0.a3, U x.Vault.a6.a1.a0, U x.Vault.a6.a1.a1, U x.Vault.a6.a1.a2, U x.Vault.a6.a1.a3, U x.Vault.a7.a0.a0, U x.Vault.a7.a0.a1, U x.Vault.a7.a0.a2, U x.Vault.a7.a0.a3, U x.Vault.a7.a1.a0, U x.Vault.a7.a1.a1, U x.Vault.a7.a1.a2, U x.Vault.a7.a1.a3, N x.Nonces.a0, N x.Nonces.a1, N x.Nonces.a2, N x.Nonces.a3, N x.Nonces.a4, N x.Nonces.a5, N x.Nonces.a6, N x.Nonces.a7, U x.Held.a0.a0, U x.Held.a0.a1, U x.Held.a0.a2, U x.Held.a0.a3, U x.Held.a1.a0, U x.Held.a1.a1, U x.Held.a1.a2, U x.Held.a1.a3, U x.Burnt.a0, U x.Burnt.a1, U x.Burnt.a2, U x.Burnt.a3, z0]
def escrow_State.z : escrow_State := ⟨0, 0, purse_Book.z, purse_Book.z, A8_i64.z, A2_api_Wide.z, api_Wide.z, []⟩
structure deadline_Due where
  Key : ByteArray
  Expiry : Int
  Left : Int
  deriving DecidableEq
def deadline_Due.cs (x : deadline_Due) : List Value := [.string x.Key, N x.Expiry, N x.Left]
def deadline_Due.z : deadline_Due := ⟨⟨#[]⟩, 0, 0⟩
structure api_Inv where
  User : Int
  Root : ByteArray
  Router : Int
  Send : Int
  Recv : Int
  To : Int
  Id : ByteArray
  deriving DecidableEq
def api_Inv.cs (x : api_Inv) : List Value := [N x.User, .string x.Root, N x.Router, N x.Send, N x.Recv, N x.To, .string x.Id]
def api_Inv.z : api_Inv := ⟨0, ⟨#[]⟩, 0, 0, 0, 0, ⟨#[]⟩⟩
structure api_Var where
  Amount : api_Wide
  Expiry : Int
  deriving DecidableEq
def api_Var.cs (x : api_Var) : List Value := [U x.Amount.a0, U x.Amount.a1, U x.Amount.a2, U x.Amount.a3, N x.Expiry]
def api_Var.z : api_Var := ⟨api_Wide.z, 0⟩
structure api_Tx where
  From : Int
  Nonce : Int
  Kind : Int
  Asset : Int
  Amount : api_Wide
  Inv : api_Inv
  Var : api_Var
  Fee : api_Wide
  Sig : ByteArray
  deriving DecidableEq
def api_Tx.cs (x : api_Tx) : List Value := [N x.From, N x.Nonce, N x.Kind, N x.Asset, U x.Amount.a0, U x.Amount.a1, U x.Amount.a2, U x.Amount.a3, N x.Inv.User, .string x.Inv.Root, N x.Inv.Router, N x.Inv.Send, N x.Inv.Recv, N x.Inv.To, .string x.Inv.Id, U x.Var.Amount.a0, U x.Var.Amount.a1, U x.Var.Amount.a2, U x.Var.Amount.a3, N x.Var.Expiry, U x.Fee.a0, U x.Fee.a1, U x.Fee.a2, U x.Fee.a3, .string x.Sig]
def api_Tx.z : api_Tx := ⟨0, 0, 0, 0, api_Wide.z, api_Inv.z, api_Var.z, api_Wide.z, ⟨#[]⟩⟩
structure api_Event where
  Time : Int
  Code : Int
  Tx : api_Tx
  deriving DecidableEq
def api_Event.cs (x : api_Event) : List Value := [N x.Time, N x.Code, N x.Tx.From, N x.Tx.Nonce, N x.Tx.Kind, N x.Tx.Asset, U x.Tx.Amount.a0, U x.Tx.Amount.a1, U x.Tx.Amount.a2, U x.Tx.Amount.a3, N x.Tx.Inv.User, .string x.Tx.Inv.Root, N x.Tx.Inv.Router, N x.Tx.Inv.Send, N x.Tx.Inv.Recv, N x.Tx.Inv.To, .string x.Tx.Inv.Id, U x.Tx.Var.Amount.a0, U x.Tx.Var.Amount.a1, U x.Tx.Var.Amount.a2, U x.Tx.Var.Amount.a3, N x.Tx.Var.Expiry, U x.Tx.Fee.a0, U x.Tx.Fee.a1, U x.Tx.Fee.a2, U x.Tx.Fee.a3, .string x.Tx.Sig]
def api_Event.z : api_Event := ⟨0, 0, api_Tx.z⟩
theorem fa_36_2 : FaV Try.prog 36 2 2 := .mk runUnderlying36 rfl sizeOf3 rfl rfl
theorem fa_36_5 : FaV Try.prog 36 5 8 := .mk runUnderlying36 rfl sizeOf32 rfl rfl
theorem fa_38_1 : FaV Try.prog 38 1 1 := .mk runUnderlying38 rfl sizeOf30 rfl rfl
theorem fa_38_2 : FaV Try.prog 38 2 2 := .mk runUnderlying38 rfl sizeOf36 rfl rfl
theorem fa_101_1 : FaV Try.prog 101 1 1 := .mk runUnderlying101 rfl sizeOf3 rfl rfl
theorem fa_101_2 : FaV Try.prog 101 2 2 := .mk runUnderlying101 rfl sizeOf3 rfl rfl
theorem pl_64 : ∀ w, ((#[{ name := "Side", type := 3, offset := 0, embedded := false, tag := "", pkgPath := "", byteOffset := 0 }, { name := "Time", type := 3, offset := 1, embedded := false, tag := "", pkgPath := "", byteOffset := 8 }, { name := "Purse", type := 60, offset := 2, embedded := false, tag := "", pkgPath := "", byteOffset := 16 }, { name := "Vault", type := 60, offset := 66, embedded := false, tag := "", pkgPath := "", byteOffset := 528 }, { name := "Nonces", type := 61, offset := 130, embedded := false, tag := "", pkgPath := "", byteOffset := 1040 }, { name := "Held", type := 54, offset := 138, embedded := false, tag := "", pkgPath := "", byteOffset := 1104 }, { name := "Burnt", type := 27, offset := 146, embedded := false, tag := "", pkgPath := "", byteOffset := 1168 }, { name := "Locks", type := 62, offset := 150, embedded := false, tag := "", pkgPath := "", byteOffset := 1200 }] : Array Field).mapM fun f => do pure (f.offset, ← sizeOf f.type) : Sem (Array (Nat × Nat))).run Try.prog w = .ok #[(0, 1), (1, 1), (2, 64), (66, 64), (130, 8), (138, 8), (146, 4), (150, 1)] w := fun w => by simp [sizeOf3, sizeOf27, sizeOf54, sizeOf60, sizeOf61, sizeOf62]
theorem pl_101 : ∀ w, ((#[{ name := "Key", type := 9, offset := 0, embedded := false, tag := "", pkgPath := "", byteOffset := 0 }, { name := "Expiry", type := 3, offset := 1, embedded := false, tag := "", pkgPath := "", byteOffset := 16 }, { name := "Left", type := 3, offset := 2, embedded := false, tag := "", pkgPath := "", byteOffset := 24 }] : Array Field).mapM fun f => do pure (f.offset, ← sizeOf f.type) : Sem (Array (Nat × Nat))).run Try.prog w = .ok #[(0, 1), (1, 1), (2, 1)] w := fun w => by simp [sizeOf3, sizeOf9]
theorem one_36 (x : api_Tx) : oneAll (api_Tx.cs x) = true := rfl
theorem one_101 (x : deadline_Due) : oneAll (deadline_Due.cs x) = true := rfl
theorem onez_64 (x : escrow_State) {z0 : Value} (hz0 : z0.oneCell' = true) : oneAll (escrow_State.cs x z0) = true := by
  simp only [oneAll, escrow_State.cs, List.all_cons, List.all_nil, hz0]
  rfl
theorem eqv_101 (d : Nat) (x y : deadline_Due) : EqV Try.prog (d + 2) 101 (Ag x.cs) (Ag y.cs) (decide (x = y)) :=
  EqV.cast (.struct (fs := [{ name := "Key", type := 9, offset := 0, embedded := false, tag := "", pkgPath := "", byteOffset := 0 }, { name := "Expiry", type := 3, offset := 1, embedded := false, tag := "", pkgPath := "", byteOffset := 16 }, { name := "Left", type := 3, offset := 2, embedded := false, tag := "", pkgPath := "", byteOffset := 24 }]) (by kernel_rfl) (by kernel_rfl) (.cons rfl (.one isAgg9 rfl) (.one isAgg9 rfl) (EqV.str (by kernel_rfl)) (.cons rfl (.one isAgg3 rfl) (.one isAgg3 rfl) (EqV.int (by kernel_rfl)) (.cons rfl (.one isAgg3 rfl) (.one isAgg3 rfl) (EqV.int (by kernel_rfl)) .nil)))) (by cases x; cases y; rw [Bool.eq_iff_iff]; simp [deadline_Due.mk.injEq, and_assoc])
theorem eq_101_eql (x y : deadline_Due) : BinV Try.prog .eql 101 (Ag x.cs) (Ag y.cs) (Bo (decide (x = y))) := .eqv (by kernel_rfl) (eqv_101 9998 x y)
theorem eq_101_neq (x y : deadline_Due) : BinV Try.prog .neq 101 (Ag x.cs) (Ag y.cs) (Bo (decide (x ≠ y))) := by
  have := BinV.neqv (P := Try.prog) (by kernel_rfl) (eqv_101 9998 x y); rw [← decide_not'] at this; exact this
noncomputable def purse_Even (a0 : UInt64) : purse_Book :=
  ⟨⟨(wide_Of a0), (wide_Of a0)⟩, ⟨(wide_Of a0), (wide_Of a0)⟩, ⟨(wide_Of a0), (wide_Of a0)⟩, ⟨(wide_Of a0), (wide_Of a0)⟩, ⟨(wide_Of a0), (wide_Of a0)⟩, ⟨(wide_Of a0), (wide_Of a0)⟩, ⟨(wide_Of a0), (wide_Of a0)⟩, ⟨(wide_Of a0), (wide_Of a0)⟩⟩
set_option maxRecDepth 20000 in
set_option maxHeartbeats 1000000 in
theorem S_purse_Even (a0 : UInt64) (r : purse_Book) (h : purse_Even a0 = r) :
    SpecF Try.prog 112 [U a0] [] [] (fun _ : Unit => True) (fun z => Ag (purse_Book.cs r)) (fun z M =>  M) (fun z M =>  M) := by
  refine .of func112 rfl ntmps112 rfl fun w0 D0 G0 => ?_
  unfold purse_Even at h
  refine .seq ?_
  refine .reg rfl ?_
  refine .opx (X.alc (cs := (purse_Book.cs ⟨⟨⟨0, 0, 0, 0⟩, ⟨0, 0, 0, 0⟩⟩, ⟨⟨0, 0, 0, 0⟩, ⟨0, 0, 0, 0⟩⟩, ⟨⟨0, 0, 0, 0⟩, ⟨0, 0, 0, 0⟩⟩, ⟨⟨0, 0, 0, 0⟩, ⟨0, 0, 0, 0⟩⟩, ⟨⟨0, 0, 0, 0⟩, ⟨0, 0, 0, 0⟩⟩, ⟨⟨0, 0, 0, 0⟩, ⟨0, 0, 0, 0⟩⟩, ⟨⟨0, 0, 0, 0⟩, ⟨0, 0, 0, 0⟩⟩, ⟨⟨0, 0, 0, 0⟩, ⟨0, 0, 0, 0⟩⟩⟩)) zeroValue60 rfl) rfl fun b1 => ?_
  refine .nil ?_
  refine .then ?_
  refine .seq ?_
  refine .reg rfl ?_
  refine .opx (X.alc (cs := (purse_Book.cs ⟨⟨⟨0, 0, 0, 0⟩, ⟨0, 0, 0, 0⟩⟩, ⟨⟨0, 0, 0, 0⟩, ⟨0, 0, 0, 0⟩⟩, ⟨⟨0, 0, 0, 0⟩, ⟨0, 0, 0, 0⟩⟩, ⟨⟨0, 0, 0, 0⟩, ⟨0, 0, 0, 0⟩⟩, ⟨⟨0, 0, 0, 0⟩, ⟨0, 0, 0, 0⟩⟩, ⟨⟨0, 0, 0, 0⟩, ⟨0, 0, 0, 0⟩⟩, ⟨⟨0, 0, 0, 0⟩, ⟨0, 0, 0, 0⟩⟩, ⟨⟨0, 0, 0, 0⟩, ⟨0, 0, 0, 0⟩⟩⟩)) zeroValue60 rfl) rfl fun b2 => ?_
  refine .nil ?_
  refine .then ?_
  refine .seq ?_
  refine .seq ?_
  refine .reg rfl ?_
  refine .opp (P.mov .k) rfl ?_
  refine .nil ?_
  refine .then ?_
  refine .block ?_
  refine .rounds 9 ?_
  refine .rd ?_
  refine .seq ?_
  refine .reg rfl ?_
  refine .opp (P.bin (v := Bo true) .g0 .k (BinV.lss.boolc (by decide))) rfl ?_
  refine .nil ?_
  refine .then ?_
  refine .seq ?_
  refine .condT .t0 ?_
  refine .skip ?_
  refine .then ?_
  refine .seq ?_
  refine .block ?_
  refine .seq ?_
  refine .reg rfl ?_
  refine .opp (P.mov .g0) rfl ?_
  refine .opp (P.asg .t0) rfl ?_
  refine .nil ?_
  refine .then ?_
  refine .seq ?_
  refine .reg rfl ?_
  refine .opp (P.mov .k) rfl ?_
  refine .nil ?_
  refine .then ?_
  refine .block ?_
  refine .rounds 3 ?_
  refine .rd ?_
  refine .seq ?_
  refine .reg rfl ?_
  refine .opp (P.bin (v := Bo true) .g0 .k (BinV.lss.boolc (by decide))) rfl ?_
  refine .nil ?_
  refine .then ?_
  refine .seq ?_
  refine .condT .t0 ?_
  refine .skip ?_
  refine .then ?_
  refine .seq ?_
  refine .block ?_
  refine .seq ?_
  refine .reg rfl ?_
  refine .opp (P.mov .g0) rfl ?_
  refine .opp (P.asg .t0) rfl ?_
  refine .nil ?_
  refine .then ?_
  refine .drawl [blk b1 60 (purse_Book.cs ⟨⟨⟨0, 0, 0, 0⟩, ⟨0, 0, 0, 0⟩⟩, ⟨⟨0, 0, 0, 0⟩, ⟨0, 0, 0, 0⟩⟩, ⟨⟨0, 0, 0, 0⟩, ⟨0, 0, 0, 0⟩⟩, ⟨⟨0, 0, 0, 0⟩, ⟨0, 0, 0, 0⟩⟩, ⟨⟨0, 0, 0, 0⟩, ⟨0, 0, 0, 0⟩⟩, ⟨⟨0, 0, 0, 0⟩, ⟨0, 0, 0, 0⟩⟩, ⟨⟨0, 0, 0, 0⟩, ⟨0, 0, 0, 0⟩⟩, ⟨⟨0, 0, 0, 0⟩, ⟨0, 0, 0, 0⟩⟩⟩)] [] (Ls.of (.cons .k1 .nil)) Rs.nil 7 (.on 0 .pu (.on 1 .pu (.on 2 .pu (.on 4 .pu (.on 3 .go (.on 5 .pu (.on 6 .go .nl))))))) follows_mixed (.inb (.thn (.thn (.inb (.inb (.thn (.thn (.inb (.thn .body))))))))) (by kernel_rfl) ?_
  refine .dpu rfl (.n rfl) (P.mov .g2) rfl rfl ?_
  refine .dpu rfl (.n rfl) (P.mov .t1) rfl rfl ?_
  refine .dpu rfl (.n rfl) (P.mov .g7) rfl rfl ?_
  refine .dpu rfl (.n rfl) (P.iac (i := 0) .t2 rfl .g5 runUnderlying60 sizeOf54 rfl rfl) rfl rfl ?_
  refine .dgo rfl (.n rfl) (G.call call74 (.cons .t1 .nil) (S_wide_Of a0 _ rfl) .nil .nil (fun _ _ => rfl) (fun _ _ => rfl) rfl) (.inr fun _ _ _ h => (h.imp (Ls.of (.cons .k1 .nil))).ro Rs.nil) fun _ _ => ?_
  refine .dpu rfl (.n rfl) (P.iac (i := 0) .t2 rfl .t1 runUnderlying54 sizeOf27 rfl rfl) rfl rfl ?_
  refine .dgo rfl (.n rfl) (G.str .t1 .t0 .k0 (.mk (cs' := (purse_Book.cs ⟨⟨(wide_Of a0), ⟨0, 0, 0, 0⟩⟩, ⟨⟨0, 0, 0, 0⟩, ⟨0, 0, 0, 0⟩⟩, ⟨⟨0, 0, 0, 0⟩, ⟨0, 0, 0, 0⟩⟩, ⟨⟨0, 0, 0, 0⟩, ⟨0, 0, 0, 0⟩⟩, ⟨⟨0, 0, 0, 0⟩, ⟨0, 0, 0, 0⟩⟩, ⟨⟨0, 0, 0, 0⟩, ⟨0, 0, 0, 0⟩⟩, ⟨⟨0, 0, 0, 0⟩, ⟨0, 0, 0, 0⟩⟩, ⟨⟨0, 0, 0, 0⟩, ⟨0, 0, 0, 0⟩⟩⟩)) sizeOf27 rfl rfl rfl rfl)) (.inr fun _ _ _ h => (h.imp (Ls.of (.cons .k1 .nil))).ro Rs.nil) fun _ _ => ?_
  refine .dnil ?_
  refine .inn ?_
  refine .then ?_
  refine .reg rfl ?_
  refine .opp (P.bin (v := N 1) .g0 .k (.addc (by decide))) rfl ?_
  refine .drop .k1 ?_
  refine .opp (P.mov .t0) rfl ?_
  refine .nil ?_
  refine .then ?_
  refine .rd ?_
  refine .seq ?_
  refine .reg rfl ?_
  refine .opp (P.bin (v := Bo true) .g0 .k (BinV.lss.boolc (by decide))) rfl ?_
  refine .nil ?_
  refine .then ?_
  refine .seq ?_
  refine .condT .t0 ?_
  refine .skip ?_
  refine .then ?_
  refine .seq ?_
  refine .block ?_
  refine .seq ?_
  refine .reg rfl ?_
  refine .opp (P.mov .g0) rfl ?_
  refine .opp (P.asg .t0) rfl ?_
  refine .nil ?_
  refine .then ?_
  refine .drawl [blk b1 60 (purse_Book.cs ⟨⟨⟨0, 0, 0, 0⟩, ⟨0, 0, 0, 0⟩⟩, ⟨⟨0, 0, 0, 0⟩, ⟨0, 0, 0, 0⟩⟩, ⟨⟨0, 0, 0, 0⟩, ⟨0, 0, 0, 0⟩⟩, ⟨⟨0, 0, 0, 0⟩, ⟨0, 0, 0, 0⟩⟩, ⟨⟨0, 0, 0, 0⟩, ⟨0, 0, 0, 0⟩⟩, ⟨⟨0, 0, 0, 0⟩, ⟨0, 0, 0, 0⟩⟩, ⟨⟨0, 0, 0, 0⟩, ⟨0, 0, 0, 0⟩⟩, ⟨⟨0, 0, 0, 0⟩, ⟨0, 0, 0, 0⟩⟩⟩)] [] (Ls.of (.cons .k1 .nil)) Rs.nil 7 (.on 0 .pu (.on 1 .pu (.on 2 .pu (.on 4 .pu (.on 3 .go (.on 5 .pu (.on 6 .go .nl))))))) follows_mixed (.inb (.thn (.thn (.inb (.inb (.thn (.thn (.inb (.thn .body))))))))) (by kernel_rfl) ?_
  refine .dpu rfl (.n rfl) (P.mov .g2) rfl rfl ?_
  refine .dpu rfl (.n rfl) (P.mov .t1) rfl rfl ?_
  refine .dpu rfl (.n rfl) (P.mov .g7) rfl rfl ?_
  refine .dpu rfl (.n rfl) (P.iac (i := 0) .t2 rfl .g5 runUnderlying60 sizeOf54 rfl rfl) rfl rfl ?_
  refine .dgo rfl (.n rfl) (G.call call74 (.cons .t1 .nil) (S_wide_Of a0 _ rfl) .nil .nil (fun _ _ => rfl) (fun _ _ => rfl) rfl) (.inr fun _ _ _ h => (h.imp (Ls.of (.cons .k1 .nil))).ro Rs.nil) fun _ _ => ?_
  refine .dpu rfl (.n rfl) (P.iac (i := 1) .t2 rfl .t1 runUnderlying54 sizeOf27 rfl rfl) rfl rfl ?_
  refine .dgo rfl (.n rfl) (G.str .t1 .t0 .k0 (.mk (cs' := (purse_Book.cs ⟨⟨(wide_Of a0), (wide_Of a0)⟩, ⟨⟨0, 0, 0, 0⟩, ⟨0, 0, 0, 0⟩⟩, ⟨⟨0, 0, 0, 0⟩, ⟨0, 0, 0, 0⟩⟩, ⟨⟨0, 0, 0, 0⟩, ⟨0, 0, 0, 0⟩⟩, ⟨⟨0, 0, 0, 0⟩, ⟨0, 0, 0, 0⟩⟩, ⟨⟨0, 0, 0, 0⟩, ⟨0, 0, 0, 0⟩⟩, ⟨⟨0, 0, 0, 0⟩, ⟨0, 0, 0, 0⟩⟩, ⟨⟨0, 0, 0, 0⟩, ⟨0, 0, 0, 0⟩⟩⟩)) sizeOf27 rfl rfl rfl rfl)) (.inr fun _ _ _ h => (h.imp (Ls.of (.cons .k1 .nil))).ro Rs.nil) fun _ _ => ?_
  refine .dnil ?_
  refine .inn ?_
  refine .then ?_
  refine .reg rfl ?_
  refine .opp (P.bin (v := N 2) .g0 .k (.addc (by decide))) rfl ?_
  refine .drop .k1 ?_
  refine .opp (P.mov .t0) rfl ?_
  refine .nil ?_
  refine .then ?_
  refine .rd ?_
  refine .seq ?_
  refine .reg rfl ?_
  refine .opp (P.bin (v := Bo false) .g0 .k (BinV.lss.boolc (by decide))) rfl ?_
  refine .nil ?_
  refine .then ?_
  refine .seq ?_
  refine .condF .t0 ?_
  refine .exit ?_
  refine .thx ?_
  refine .thx ?_
  refine .inb ?_
  refine .inn ?_
  refine .then ?_
  refine .reg rfl ?_
  refine .opp (P.bin (v := N 1) .g2 .k (.addc (by decide))) rfl ?_
  refine .drop .k3 ?_
  refine .opp (P.mov .t0) rfl ?_
  refine .nil ?_
  refine .then ?_
  refine .rd ?_
  refine .seq ?_
  refine .reg rfl ?_
  refine .opp (P.bin (v := Bo true) .g0 .k (BinV.lss.boolc (by decide))) rfl ?_
  refine .nil ?_
  refine .then ?_
  refine .seq ?_
  refine .condT .t0 ?_
  refine .skip ?_
  refine .then ?_
  refine .seq ?_
  refine .block ?_
  refine .seq ?_
  refine .reg rfl ?_
  refine .opp (P.mov .g0) rfl ?_
  refine .drop .k3 ?_
  refine .opp (P.asg .t0) rfl ?_
  refine .nil ?_
  refine .then ?_
  refine .seq ?_
  refine .reg rfl ?_
  refine .drop .k2 ?_
  refine .opp (P.mov .k) rfl ?_
  refine .nil ?_
  refine .then ?_
  refine .block ?_
  refine .rounds 3 ?_
  refine .rd ?_
  refine .seq ?_
  refine .reg rfl ?_
  refine .opp (P.bin (v := Bo true) .g0 .k (BinV.lss.boolc (by decide))) rfl ?_
  refine .nil ?_
  refine .then ?_
  refine .seq ?_
  refine .condT .t0 ?_
  refine .skip ?_
  refine .then ?_
  refine .seq ?_
  refine .block ?_
  refine .seq ?_
  refine .reg rfl ?_
  refine .opp (P.mov .g0) rfl ?_
  refine .opp (P.asg .t0) rfl ?_
  refine .nil ?_
  refine .then ?_
  refine .drawl [blk b1 60 (purse_Book.cs ⟨⟨⟨0, 0, 0, 0⟩, ⟨0, 0, 0, 0⟩⟩, ⟨⟨0, 0, 0, 0⟩, ⟨0, 0, 0, 0⟩⟩, ⟨⟨0, 0, 0, 0⟩, ⟨0, 0, 0, 0⟩⟩, ⟨⟨0, 0, 0, 0⟩, ⟨0, 0, 0, 0⟩⟩, ⟨⟨0, 0, 0, 0⟩, ⟨0, 0, 0, 0⟩⟩, ⟨⟨0, 0, 0, 0⟩, ⟨0, 0, 0, 0⟩⟩, ⟨⟨0, 0, 0, 0⟩, ⟨0, 0, 0, 0⟩⟩, ⟨⟨0, 0, 0, 0⟩, ⟨0, 0, 0, 0⟩⟩⟩)] [] (Ls.of (.cons .k1 .nil)) Rs.nil 7 (.on 0 .pu (.on 1 .pu (.on 2 .pu (.on 4 .pu (.on 3 .go (.on 5 .pu (.on 6 .go .nl))))))) follows_mixed (.inb (.thn (.thn (.inb (.inb (.thn (.thn (.inb (.thn .body))))))))) (by kernel_rfl) ?_
  refine .dpu rfl (.n rfl) (P.mov .g2) rfl rfl ?_
  refine .dpu rfl (.n rfl) (P.mov .t1) rfl rfl ?_
  refine .dpu rfl (.n rfl) (P.mov .g7) rfl rfl ?_
  refine .dpu rfl (.n rfl) (P.iac (i := 1) .t2 rfl .g5 runUnderlying60 sizeOf54 rfl rfl) rfl rfl ?_
  refine .dgo rfl (.n rfl) (G.call call74 (.cons .t1 .nil) (S_wide_Of a0 _ rfl) .nil .nil (fun _ _ => rfl) (fun _ _ => rfl) rfl) (.inr fun _ _ _ h => (h.imp (Ls.of (.cons .k1 .nil))).ro Rs.nil) fun _ _ => ?_
  refine .dpu rfl (.n rfl) (P.iac (i := 0) .t2 rfl .t1 runUnderlying54 sizeOf27 rfl rfl) rfl rfl ?_
  refine .dgo rfl (.n rfl) (G.str .t1 .t0 .k0 (.mk (cs' := (purse_Book.cs ⟨⟨(wide_Of a0), (wide_Of a0)⟩, ⟨(wide_Of a0), ⟨0, 0, 0, 0⟩⟩, ⟨⟨0, 0, 0, 0⟩, ⟨0, 0, 0, 0⟩⟩, ⟨⟨0, 0, 0, 0⟩, ⟨0, 0, 0, 0⟩⟩, ⟨⟨0, 0, 0, 0⟩, ⟨0, 0, 0, 0⟩⟩, ⟨⟨0, 0, 0, 0⟩, ⟨0, 0, 0, 0⟩⟩, ⟨⟨0, 0, 0, 0⟩, ⟨0, 0, 0, 0⟩⟩, ⟨⟨0, 0, 0, 0⟩, ⟨0, 0, 0, 0⟩⟩⟩)) sizeOf27 rfl rfl rfl rfl)) (.inr fun _ _ _ h => (h.imp (Ls.of (.cons .k1 .nil))).ro Rs.nil) fun _ _ => ?_
  refine .dnil ?_
  refine .inn ?_
  refine .then ?_
  refine .reg rfl ?_
  refine .opp (P.bin (v := N 1) .g0 .k (.addc (by decide))) rfl ?_
  refine .drop .k1 ?_
  refine .opp (P.mov .t0) rfl ?_
  refine .nil ?_
  refine .then ?_
  refine .rd ?_
  refine .seq ?_
  refine .reg rfl ?_
  refine .opp (P.bin (v := Bo true) .g0 .k (BinV.lss.boolc (by decide))) rfl ?_
  refine .nil ?_
  refine .then ?_
  refine .seq ?_
  refine .condT .t0 ?_
  refine .skip ?_
  refine .then ?_
  refine .seq ?_
  refine .block ?_
  refine .seq ?_
  refine .reg rfl ?_
  refine .opp (P.mov .g0) rfl ?_
  refine .opp (P.asg .t0) rfl ?_
  refine .nil ?_
  refine .then ?_
  refine .drawl [blk b1 60 (purse_Book.cs ⟨⟨⟨0, 0, 0, 0⟩, ⟨0, 0, 0, 0⟩⟩, ⟨⟨0, 0, 0, 0⟩, ⟨0, 0, 0, 0⟩⟩, ⟨⟨0, 0, 0, 0⟩, ⟨0, 0, 0, 0⟩⟩, ⟨⟨0, 0, 0, 0⟩, ⟨0, 0, 0, 0⟩⟩, ⟨⟨0, 0, 0, 0⟩, ⟨0, 0, 0, 0⟩⟩, ⟨⟨0, 0, 0, 0⟩, ⟨0, 0, 0, 0⟩⟩, ⟨⟨0, 0, 0, 0⟩, ⟨0, 0, 0, 0⟩⟩, ⟨⟨0, 0, 0, 0⟩, ⟨0, 0, 0, 0⟩⟩⟩)] [] (Ls.of (.cons .k1 .nil)) Rs.nil 7 (.on 0 .pu (.on 1 .pu (.on 2 .pu (.on 4 .pu (.on 3 .go (.on 5 .pu (.on 6 .go .nl))))))) follows_mixed (.inb (.thn (.thn (.inb (.inb (.thn (.thn (.inb (.thn .body))))))))) (by kernel_rfl) ?_
  refine .dpu rfl (.n rfl) (P.mov .g2) rfl rfl ?_
  refine .dpu rfl (.n rfl) (P.mov .t1) rfl rfl ?_
  refine .dpu rfl (.n rfl) (P.mov .g7) rfl rfl ?_
  refine .dpu rfl (.n rfl) (P.iac (i := 1) .t2 rfl .g5 runUnderlying60 sizeOf54 rfl rfl) rfl rfl ?_
  refine .dgo rfl (.n rfl) (G.call call74 (.cons .t1 .nil) (S_wide_Of a0 _ rfl) .nil .nil (fun _ _ => rfl) (fun _ _ => rfl) rfl) (.inr fun _ _ _ h => (h.imp (Ls.of (.cons .k1 .nil))).ro Rs.nil) fun _ _ => ?_
  refine .dpu rfl (.n rfl) (P.iac (i := 1) .t2 rfl .t1 runUnderlying54 sizeOf27 rfl rfl) rfl rfl ?_
  refine .dgo rfl (.n rfl) (G.str .t1 .t0 .k0 (.mk (cs' := (purse_Book.cs ⟨⟨(wide_Of a0), (wide_Of a0)⟩, ⟨(wide_Of a0), (wide_Of a0)⟩, ⟨⟨0, 0, 0, 0⟩, ⟨0, 0, 0, 0⟩⟩, ⟨⟨0, 0, 0, 0⟩, ⟨0, 0, 0, 0⟩⟩, ⟨⟨0, 0, 0, 0⟩, ⟨0, 0, 0, 0⟩⟩, ⟨⟨0, 0, 0, 0⟩, ⟨0, 0, 0, 0⟩⟩, ⟨⟨0, 0, 0, 0⟩, ⟨0, 0, 0, 0⟩⟩, ⟨⟨0, 0, 0, 0⟩, ⟨0, 0, 0, 0⟩⟩⟩)) sizeOf27 rfl rfl rfl rfl)) (.inr fun _ _ _ h => (h.imp (Ls.of (.cons .k1 .nil))).ro Rs.nil) fun _ _ => ?_
  refine .dnil ?_
  refine .inn ?_
  refine .then ?_
  refine .reg rfl ?_
  refine .opp (P.bin (v := N 2) .g0 .k (.addc (by decide))) rfl ?_
  refine .drop .k1 ?_
  refine .opp (P.mov .t0) rfl ?_
  refine .nil ?_
  refine .then ?_
  refine .rd ?_
  refine .seq ?_
  refine .reg rfl ?_
  refine .opp (P.bin (v := Bo false) .g0 .k (BinV.lss.boolc (by decide))) rfl ?_
  refine .nil ?_
  refine .then ?_
  refine .seq ?_
  refine .condF .t0 ?_
  refine .exit ?_
  refine .thx ?_
  refine .thx ?_
  refine .inb ?_
  refine .inn ?_
  refine .then ?_
  refine .reg rfl ?_
  refine .opp (P.bin (v := N 2) .g2 .k (.addc (by decide))) rfl ?_
  refine .drop .k3 ?_
  refine .opp (P.mov .t0) rfl ?_
  refine .nil ?_
  refine .then ?_
  refine .rd ?_
  refine .seq ?_
  refine .reg rfl ?_
  refine .opp (P.bin (v := Bo true) .g0 .k (BinV.lss.boolc (by decide))) rfl ?_
  refine .nil ?_
  refine .then ?_
  refine .seq ?_
  refine .condT .t0 ?_
  refine .skip ?_
  refine .then ?_
  refine .seq ?_
  refine .block ?_
  refine .seq ?_
  refine .reg rfl ?_
  refine .opp (P.mov .g0) rfl ?_
  refine .drop .k3 ?_
  refine .opp (P.asg .t0) rfl ?_
  refine .nil ?_
  refine .then ?_
  refine .seq ?_
  refine .reg rfl ?_
  refine .drop .k2 ?_
  refine .opp (P.mov .k) rfl ?_
  refine .nil ?_
  refine .then ?_
  refine .block ?_
  refine .rounds 3 ?_
  refine .rd ?_
  refine .seq ?_
  refine .reg rfl ?_
  refine .opp (P.bin (v := Bo true) .g0 .k (BinV.lss.boolc (by decide))) rfl ?_
  refine .nil ?_
  refine .then ?_
  refine .seq ?_
  refine .condT .t0 ?_
  refine .skip ?_
  refine .then ?_
  refine .seq ?_
  refine .block ?_
  refine .seq ?_
  refine .reg rfl ?_
  refine .opp (P.mov .g0) rfl ?_
  refine .opp (P.asg .t0) rfl ?_
  refine .nil ?_
  refine .then ?_
  refine .drawl [blk b1 60 (purse_Book.cs ⟨⟨⟨0, 0, 0, 0⟩, ⟨0, 0, 0, 0⟩⟩, ⟨⟨0, 0, 0, 0⟩, ⟨0, 0, 0, 0⟩⟩, ⟨⟨0, 0, 0, 0⟩, ⟨0, 0, 0, 0⟩⟩, ⟨⟨0, 0, 0, 0⟩, ⟨0, 0, 0, 0⟩⟩, ⟨⟨0, 0, 0, 0⟩, ⟨0, 0, 0, 0⟩⟩, ⟨⟨0, 0, 0, 0⟩, ⟨0, 0, 0, 0⟩⟩, ⟨⟨0, 0, 0, 0⟩, ⟨0, 0, 0, 0⟩⟩, ⟨⟨0, 0, 0, 0⟩, ⟨0, 0, 0, 0⟩⟩⟩)] [] (Ls.of (.cons .k1 .nil)) Rs.nil 7 (.on 0 .pu (.on 1 .pu (.on 2 .pu (.on 4 .pu (.on 3 .go (.on 5 .pu (.on 6 .go .nl))))))) follows_mixed (.inb (.thn (.thn (.inb (.inb (.thn (.thn (.inb (.thn .body))))))))) (by kernel_rfl) ?_
  refine .dpu rfl (.n rfl) (P.mov .g2) rfl rfl ?_
  refine .dpu rfl (.n rfl) (P.mov .t1) rfl rfl ?_
  refine .dpu rfl (.n rfl) (P.mov .g7) rfl rfl ?_
  refine .dpu rfl (.n rfl) (P.iac (i := 2) .t2 rfl .g5 runUnderlying60 sizeOf54 rfl rfl) rfl rfl ?_
  refine .dgo rfl (.n rfl) (G.call call74 (.cons .t1 .nil) (S_wide_Of a0 _ rfl) .nil .nil (fun _ _ => rfl) (fun _ _ => rfl) rfl) (.inr fun _ _ _ h => (h.imp (Ls.of (.cons .k1 .nil))).ro Rs.nil) fun _ _ => ?_
  refine .dpu rfl (.n rfl) (P.iac (i := 0) .t2 rfl .t1 runUnderlying54 sizeOf27 rfl rfl) rfl rfl ?_
  refine .dgo rfl (.n rfl) (G.str .t1 .t0 .k0 (.mk (cs' := (purse_Book.cs ⟨⟨(wide_Of a0), (wide_Of a0)⟩, ⟨(wide_Of a0), (wide_Of a0)⟩, ⟨(wide_Of a0), ⟨0, 0, 0, 0⟩⟩, ⟨⟨0, 0, 0, 0⟩, ⟨0, 0, 0, 0⟩⟩, ⟨⟨0, 0, 0, 0⟩, ⟨0, 0, 0, 0⟩⟩, ⟨⟨0, 0, 0, 0⟩, ⟨0, 0, 0, 0⟩⟩, ⟨⟨0, 0, 0, 0⟩, ⟨0, 0, 0, 0⟩⟩, ⟨⟨0, 0, 0, 0⟩, ⟨0, 0, 0, 0⟩⟩⟩)) sizeOf27 rfl rfl rfl rfl)) (.inr fun _ _ _ h => (h.imp (Ls.of (.cons .k1 .nil))).ro Rs.nil) fun _ _ => ?_
  refine .dnil ?_
  refine .inn ?_
  refine .then ?_
  refine .reg rfl ?_
  refine .opp (P.bin (v := N 1) .g0 .k (.addc (by decide))) rfl ?_
  refine .drop .k1 ?_
  refine .opp (P.mov .t0) rfl ?_
  refine .nil ?_
  refine .then ?_
  refine .rd ?_
  refine .seq ?_
  refine .reg rfl ?_
  refine .opp (P.bin (v := Bo true) .g0 .k (BinV.lss.boolc (by decide))) rfl ?_
  refine .nil ?_
  refine .then ?_
  refine .seq ?_
  refine .condT .t0 ?_
  refine .skip ?_
  refine .then ?_
  refine .seq ?_
  refine .block ?_
  refine .seq ?_
  refine .reg rfl ?_
  refine .opp (P.mov .g0) rfl ?_
  refine .opp (P.asg .t0) rfl ?_
  refine .nil ?_
  refine .then ?_
  refine .drawl [blk b1 60 (purse_Book.cs ⟨⟨⟨0, 0, 0, 0⟩, ⟨0, 0, 0, 0⟩⟩, ⟨⟨0, 0, 0, 0⟩, ⟨0, 0, 0, 0⟩⟩, ⟨⟨0, 0, 0, 0⟩, ⟨0, 0, 0, 0⟩⟩, ⟨⟨0, 0, 0, 0⟩, ⟨0, 0, 0, 0⟩⟩, ⟨⟨0, 0, 0, 0⟩, ⟨0, 0, 0, 0⟩⟩, ⟨⟨0, 0, 0, 0⟩, ⟨0, 0, 0, 0⟩⟩, ⟨⟨0, 0, 0, 0⟩, ⟨0, 0, 0, 0⟩⟩, ⟨⟨0, 0, 0, 0⟩, ⟨0, 0, 0, 0⟩⟩⟩)] [] (Ls.of (.cons .k1 .nil)) Rs.nil 7 (.on 0 .pu (.on 1 .pu (.on 2 .pu (.on 4 .pu (.on 3 .go (.on 5 .pu (.on 6 .go .nl))))))) follows_mixed (.inb (.thn (.thn (.inb (.inb (.thn (.thn (.inb (.thn .body))))))))) (by kernel_rfl) ?_
  refine .dpu rfl (.n rfl) (P.mov .g2) rfl rfl ?_
  refine .dpu rfl (.n rfl) (P.mov .t1) rfl rfl ?_
  refine .dpu rfl (.n rfl) (P.mov .g7) rfl rfl ?_
  refine .dpu rfl (.n rfl) (P.iac (i := 2) .t2 rfl .g5 runUnderlying60 sizeOf54 rfl rfl) rfl rfl ?_
  refine .dgo rfl (.n rfl) (G.call call74 (.cons .t1 .nil) (S_wide_Of a0 _ rfl) .nil .nil (fun _ _ => rfl) (fun _ _ => rfl) rfl) (.inr fun _ _ _ h => (h.imp (Ls.of (.cons .k1 .nil))).ro Rs.nil) fun _ _ => ?_
  refine .dpu rfl (.n rfl) (P.iac (i := 1) .t2 rfl .t1 runUnderlying54 sizeOf27 rfl rfl) rfl rfl ?_
  refine .dgo rfl (.n rfl) (G.str .t1 .t0 .k0 (.mk (cs' := (purse_Book.cs ⟨⟨(wide_Of a0), (wide_Of a0)⟩, ⟨(wide_Of a0), (wide_Of a0)⟩, ⟨(wide_Of a0), (wide_Of a0)⟩, ⟨⟨0, 0, 0, 0⟩, ⟨0, 0, 0, 0⟩⟩, ⟨⟨0, 0, 0, 0⟩, ⟨0, 0, 0, 0⟩⟩, ⟨⟨0, 0, 0, 0⟩, ⟨0, 0, 0, 0⟩⟩, ⟨⟨0, 0, 0, 0⟩, ⟨0, 0, 0, 0⟩⟩, ⟨⟨0, 0, 0, 0⟩, ⟨0, 0, 0, 0⟩⟩⟩)) sizeOf27 rfl rfl rfl rfl)) (.inr fun _ _ _ h => (h.imp (Ls.of (.cons .k1 .nil))).ro Rs.nil) fun _ _ => ?_
  refine .dnil ?_
  refine .inn ?_
  refine .then ?_
  refine .reg rfl ?_
  refine .opp (P.bin (v := N 2) .g0 .k (.addc (by decide))) rfl ?_
  refine .drop .k1 ?_
  refine .opp (P.mov .t0) rfl ?_
  refine .nil ?_
  refine .then ?_
  refine .rd ?_
  refine .seq ?_
  refine .reg rfl ?_
  refine .opp (P.bin (v := Bo false) .g0 .k (BinV.lss.boolc (by decide))) rfl ?_
  refine .nil ?_
  refine .then ?_
  refine .seq ?_
  refine .condF .t0 ?_
  refine .exit ?_
  refine .thx ?_
  refine .thx ?_
  refine .inb ?_
  refine .inn ?_
  refine .then ?_
  refine .reg rfl ?_
  refine .opp (P.bin (v := N 3) .g2 .k (.addc (by decide))) rfl ?_
  refine .drop .k3 ?_
  refine .opp (P.mov .t0) rfl ?_
  refine .nil ?_
  refine .then ?_
  refine .rd ?_
  refine .seq ?_
  refine .reg rfl ?_
  refine .opp (P.bin (v := Bo true) .g0 .k (BinV.lss.boolc (by decide))) rfl ?_
  refine .nil ?_
  refine .then ?_
  refine .seq ?_
  refine .condT .t0 ?_
  refine .skip ?_
  refine .then ?_
  refine .seq ?_
  refine .block ?_
  refine .seq ?_
  refine .reg rfl ?_
  refine .opp (P.mov .g0) rfl ?_
  refine .drop .k3 ?_
  refine .opp (P.asg .t0) rfl ?_
  refine .nil ?_
  refine .then ?_
  refine .seq ?_
  refine .reg rfl ?_
  refine .drop .k2 ?_
  refine .opp (P.mov .k) rfl ?_
  refine .nil ?_
  refine .then ?_
  refine .block ?_
  refine .rounds 3 ?_
  refine .rd ?_
  refine .seq ?_
  refine .reg rfl ?_
  refine .opp (P.bin (v := Bo true) .g0 .k (BinV.lss.boolc (by decide))) rfl ?_
  refine .nil ?_
  refine .then ?_
  refine .seq ?_
  refine .condT .t0 ?_
  refine .skip ?_
  refine .then ?_
  refine .seq ?_
  refine .block ?_
  refine .seq ?_
  refine .reg rfl ?_
  refine .opp (P.mov .g0) rfl ?_
  refine .opp (P.asg .t0) rfl ?_
  refine .nil ?_
  refine .then ?_
  refine .drawl [blk b1 60 (purse_Book.cs ⟨⟨⟨0, 0, 0, 0⟩, ⟨0, 0, 0, 0⟩⟩, ⟨⟨0, 0, 0, 0⟩, ⟨0, 0, 0, 0⟩⟩, ⟨⟨0, 0, 0, 0⟩, ⟨0, 0, 0, 0⟩⟩, ⟨⟨0, 0, 0, 0⟩, ⟨0, 0, 0, 0⟩⟩, ⟨⟨0, 0, 0, 0⟩, ⟨0, 0, 0, 0⟩⟩, ⟨⟨0, 0, 0, 0⟩, ⟨0, 0, 0, 0⟩⟩, ⟨⟨0, 0, 0, 0⟩, ⟨0, 0, 0, 0⟩⟩, ⟨⟨0, 0, 0, 0⟩, ⟨0, 0, 0, 0⟩⟩⟩)] [] (Ls.of (.cons .k1 .nil)) Rs.nil 7 (.on 0 .pu (.on 1 .pu (.on 2 .pu (.on 4 .pu (.on 3 .go (.on 5 .pu (.on 6 .go .nl))))))) follows_mixed (.inb (.thn (.thn (.inb (.inb (.thn (.thn (.inb (.thn .body))))))))) (by kernel_rfl) ?_
  refine .dpu rfl (.n rfl) (P.mov .g2) rfl rfl ?_
  refine .dpu rfl (.n rfl) (P.mov .t1) rfl rfl ?_
  refine .dpu rfl (.n rfl) (P.mov .g7) rfl rfl ?_
  refine .dpu rfl (.n rfl) (P.iac (i := 3) .t2 rfl .g5 runUnderlying60 sizeOf54 rfl rfl) rfl rfl ?_
  refine .dgo rfl (.n rfl) (G.call call74 (.cons .t1 .nil) (S_wide_Of a0 _ rfl) .nil .nil (fun _ _ => rfl) (fun _ _ => rfl) rfl) (.inr fun _ _ _ h => (h.imp (Ls.of (.cons .k1 .nil))).ro Rs.nil) fun _ _ => ?_
  refine .dpu rfl (.n rfl) (P.iac (i := 0) .t2 rfl .t1 runUnderlying54 sizeOf27 rfl rfl) rfl rfl ?_
  refine .dgo rfl (.n rfl) (G.str .t1 .t0 .k0 (.mk (cs' := (purse_Book.cs ⟨⟨(wide_Of a0), (wide_Of a0)⟩, ⟨(wide_Of a0), (wide_Of a0)⟩, ⟨(wide_Of a0), (wide_Of a0)⟩, ⟨(wide_Of a0), ⟨0, 0, 0, 0⟩⟩, ⟨⟨0, 0, 0, 0⟩, ⟨0, 0, 0, 0⟩⟩, ⟨⟨0, 0, 0, 0⟩, ⟨0, 0, 0, 0⟩⟩, ⟨⟨0, 0, 0, 0⟩, ⟨0, 0, 0, 0⟩⟩, ⟨⟨0, 0, 0, 0⟩, ⟨0, 0, 0, 0⟩⟩⟩)) sizeOf27 rfl rfl rfl rfl)) (.inr fun _ _ _ h => (h.imp (Ls.of (.cons .k1 .nil))).ro Rs.nil) fun _ _ => ?_
  refine .dnil ?_
  refine .inn ?_
  refine .then ?_
  refine .reg rfl ?_
  refine .opp (P.bin (v := N 1) .g0 .k (.addc (by decide))) rfl ?_
  refine .drop .k1 ?_
  refine .opp (P.mov .t0) rfl ?_
  refine .nil ?_
  refine .then ?_
  refine .rd ?_
  refine .seq ?_
  refine .reg rfl ?_
  refine .opp (P.bin (v := Bo true) .g0 .k (BinV.lss.boolc (by decide))) rfl ?_
  refine .nil ?_
  refine .then ?_
  refine .seq ?_
  refine .condT .t0 ?_
  refine .skip ?_
  refine .then ?_
  refine .seq ?_
  refine .block ?_
  refine .seq ?_
  refine .reg rfl ?_
  refine .opp (P.mov .g0) rfl ?_
  refine .opp (P.asg .t0) rfl ?_
  refine .nil ?_
  refine .then ?_
  refine .drawl [blk b1 60 (purse_Book.cs ⟨⟨⟨0, 0, 0, 0⟩, ⟨0, 0, 0, 0⟩⟩, ⟨⟨0, 0, 0, 0⟩, ⟨0, 0, 0, 0⟩⟩, ⟨⟨0, 0, 0, 0⟩, ⟨0, 0, 0, 0⟩⟩, ⟨⟨0, 0, 0, 0⟩, ⟨0, 0, 0, 0⟩⟩, ⟨⟨0, 0, 0, 0⟩, ⟨0, 0, 0, 0⟩⟩, ⟨⟨0, 0, 0, 0⟩, ⟨0, 0, 0, 0⟩⟩, ⟨⟨0, 0, 0, 0⟩, ⟨0, 0, 0, 0⟩⟩, ⟨⟨0, 0, 0, 0⟩, ⟨0, 0, 0, 0⟩⟩⟩)] [] (Ls.of (.cons .k1 .nil)) Rs.nil 7 (.on 0 .pu (.on 1 .pu (.on 2 .pu (.on 4 .pu (.on 3 .go (.on 5 .pu (.on 6 .go .nl))))))) follows_mixed (.inb (.thn (.thn (.inb (.inb (.thn (.thn (.inb (.thn .body))))))))) (by kernel_rfl) ?_
  refine .dpu rfl (.n rfl) (P.mov .g2) rfl rfl ?_
  refine .dpu rfl (.n rfl) (P.mov .t1) rfl rfl ?_
  refine .dpu rfl (.n rfl) (P.mov .g7) rfl rfl ?_
  refine .dpu rfl (.n rfl) (P.iac (i := 3) .t2 rfl .g5 runUnderlying60 sizeOf54 rfl rfl) rfl rfl ?_
  refine .dgo rfl (.n rfl) (G.call call74 (.cons .t1 .nil) (S_wide_Of a0 _ rfl) .nil .nil (fun _ _ => rfl) (fun _ _ => rfl) rfl) (.inr fun _ _ _ h => (h.imp (Ls.of (.cons .k1 .nil))).ro Rs.nil) fun _ _ => ?_
  refine .dpu rfl (.n rfl) (P.iac (i := 1) .t2 rfl .t1 runUnderlying54 sizeOf27 rfl rfl) rfl rfl ?_
  refine .dgo rfl (.n rfl) (G.str .t1 .t0 .k0 (.mk (cs' := (purse_Book.cs ⟨⟨(wide_Of a0), (wide_Of a0)⟩, ⟨(wide_Of a0), (wide_Of a0)⟩, ⟨(wide_Of a0), (wide_Of a0)⟩, ⟨(wide_Of a0), (wide_Of a0)⟩, ⟨⟨0, 0, 0, 0⟩, ⟨0, 0, 0, 0⟩⟩, ⟨⟨0, 0, 0, 0⟩, ⟨0, 0, 0, 0⟩⟩, ⟨⟨0, 0, 0, 0⟩, ⟨0, 0, 0, 0⟩⟩, ⟨⟨0, 0, 0, 0⟩, ⟨0, 0, 0, 0⟩⟩⟩)) sizeOf27 rfl rfl rfl rfl)) (.inr fun _ _ _ h => (h.imp (Ls.of (.cons .k1 .nil))).ro Rs.nil) fun _ _ => ?_
  refine .dnil ?_
  refine .inn ?_
  refine .then ?_
  refine .reg rfl ?_
  refine .opp (P.bin (v := N 2) .g0 .k (.addc (by decide))) rfl ?_
  refine .drop .k1 ?_
  refine .opp (P.mov .t0) rfl ?_
  refine .nil ?_
  refine .then ?_
  refine .rd ?_
  refine .seq ?_
  refine .reg rfl ?_
  refine .opp (P.bin (v := Bo false) .g0 .k (BinV.lss.boolc (by decide))) rfl ?_
  refine .nil ?_
  refine .then ?_
  refine .seq ?_
  refine .condF .t0 ?_
  refine .exit ?_
  refine .thx ?_
  refine .thx ?_
  refine .inb ?_
  refine .inn ?_
  refine .then ?_
  refine .reg rfl ?_
  refine .opp (P.bin (v := N 4) .g2 .k (.addc (by decide))) rfl ?_
  refine .drop .k3 ?_
  refine .opp (P.mov .t0) rfl ?_
  refine .nil ?_
  refine .then ?_
  refine .rd ?_
  refine .seq ?_
  refine .reg rfl ?_
  refine .opp (P.bin (v := Bo true) .g0 .k (BinV.lss.boolc (by decide))) rfl ?_
  refine .nil ?_
  refine .then ?_
  refine .seq ?_
  refine .condT .t0 ?_
  refine .skip ?_
  refine .then ?_
  refine .seq ?_
  refine .block ?_
  refine .seq ?_
  refine .reg rfl ?_
  refine .opp (P.mov .g0) rfl ?_
  refine .drop .k3 ?_
  refine .opp (P.asg .t0) rfl ?_
  refine .nil ?_
  refine .then ?_
  refine .seq ?_
  refine .reg rfl ?_
  refine .drop .k2 ?_
  refine .opp (P.mov .k) rfl ?_
  refine .nil ?_
  refine .then ?_
  refine .block ?_
  refine .rounds 3 ?_
  refine .rd ?_
  refine .seq ?_
  refine .reg rfl ?_
  refine .opp (P.bin (v := Bo true) .g0 .k (BinV.lss.boolc (by decide))) rfl ?_
  refine .nil ?_
  refine .then ?_
  refine .seq ?_
  refine .condT .t0 ?_
  refine .skip ?_
  refine .then ?_
  refine .seq ?_
  refine .block ?_
  refine .seq ?_
  refine .reg rfl ?_
  refine .opp (P.mov .g0) rfl ?_
  refine .opp (P.asg .t0) rfl ?_
  refine .nil ?_
  refine .then ?_
  refine .drawl [blk b1 60 (purse_Book.cs ⟨⟨⟨0, 0, 0, 0⟩, ⟨0, 0, 0, 0⟩⟩, ⟨⟨0, 0, 0, 0⟩, ⟨0, 0, 0, 0⟩⟩, ⟨⟨0, 0, 0, 0⟩, ⟨0, 0, 0, 0⟩⟩, ⟨⟨0, 0, 0, 0⟩, ⟨0, 0, 0, 0⟩⟩, ⟨⟨0, 0, 0, 0⟩, ⟨0, 0, 0, 0⟩⟩, ⟨⟨0, 0, 0, 0⟩, ⟨0, 0, 0, 0⟩⟩, ⟨⟨0, 0, 0, 0⟩, ⟨0, 0, 0, 0⟩⟩, ⟨⟨0, 0, 0, 0⟩, ⟨0, 0, 0, 0⟩⟩⟩)] [] (Ls.of (.cons .k1 .nil)) Rs.nil 7 (.on 0 .pu (.on 1 .pu (.on 2 .pu (.on 4 .pu (.on 3 .go (.on 5 .pu (.on 6 .go .nl))))))) follows_mixed (.inb (.thn (.thn (.inb (.inb (.thn (.thn (.inb (.thn .body))))))))) (by kernel_rfl) ?_
  refine .dpu rfl (.n rfl) (P.mov .g2) rfl rfl ?_
  refine .dpu rfl (.n rfl) (P.mov .t1) rfl rfl ?_
  refine .dpu rfl (.n rfl) (P.mov .g7) rfl rfl ?_
  refine .dpu rfl (.n rfl) (P.iac (i := 4) .t2 rfl .g5 runUnderlying60 sizeOf54 rfl rfl) rfl rfl ?_
  refine .dgo rfl (.n rfl) (G.call call74 (.cons .t1 .nil) (S_wide_Of a0 _ rfl) .nil .nil (fun _ _ => rfl) (fun _ _ => rfl) rfl) (.inr fun _ _ _ h => (h.imp (Ls.of (.cons .k1 .nil))).ro Rs.nil) fun _ _ => ?_
  refine .dpu rfl (.n rfl) (P.iac (i := 0) .t2 rfl .t1 runUnderlying54 sizeOf27 rfl rfl) rfl rfl ?_
  refine .dgo rfl (.n rfl) (G.str .t1 .t0 .k0 (.mk (cs' := (purse_Book.cs ⟨⟨(wide_Of a0), (wide_Of a0)⟩, ⟨(wide_Of a0), (wide_Of a0)⟩, ⟨(wide_Of a0), (wide_Of a0)⟩, ⟨(wide_Of a0), (wide_Of a0)⟩, ⟨(wide_Of a0), ⟨0, 0, 0, 0⟩⟩, ⟨⟨0, 0, 0, 0⟩, ⟨0, 0, 0, 0⟩⟩, ⟨⟨0, 0, 0, 0⟩, ⟨0, 0, 0, 0⟩⟩, ⟨⟨0, 0, 0, 0⟩, ⟨0, 0, 0, 0⟩⟩⟩)) sizeOf27 rfl rfl rfl rfl)) (.inr fun _ _ _ h => (h.imp (Ls.of (.cons .k1 .nil))).ro Rs.nil) fun _ _ => ?_
  refine .dnil ?_
  refine .inn ?_
  refine .then ?_
  refine .reg rfl ?_
  refine .opp (P.bin (v := N 1) .g0 .k (.addc (by decide))) rfl ?_
  refine .drop .k1 ?_
  refine .opp (P.mov .t0) rfl ?_
  refine .nil ?_
  refine .then ?_
  refine .rd ?_
  refine .seq ?_
  refine .reg rfl ?_
  refine .opp (P.bin (v := Bo true) .g0 .k (BinV.lss.boolc (by decide))) rfl ?_
  refine .nil ?_
  refine .then ?_
  refine .seq ?_
  refine .condT .t0 ?_
  refine .skip ?_
  refine .then ?_
  refine .seq ?_
  refine .block ?_
  refine .seq ?_
  refine .reg rfl ?_
  refine .opp (P.mov .g0) rfl ?_
  refine .opp (P.asg .t0) rfl ?_
  refine .nil ?_
  refine .then ?_
  refine .drawl [blk b1 60 (purse_Book.cs ⟨⟨⟨0, 0, 0, 0⟩, ⟨0, 0, 0, 0⟩⟩, ⟨⟨0, 0, 0, 0⟩, ⟨0, 0, 0, 0⟩⟩, ⟨⟨0, 0, 0, 0⟩, ⟨0, 0, 0, 0⟩⟩, ⟨⟨0, 0, 0, 0⟩, ⟨0, 0, 0, 0⟩⟩, ⟨⟨0, 0, 0, 0⟩, ⟨0, 0, 0, 0⟩⟩, ⟨⟨0, 0, 0, 0⟩, ⟨0, 0, 0, 0⟩⟩, ⟨⟨0, 0, 0, 0⟩, ⟨0, 0, 0, 0⟩⟩, ⟨⟨0, 0, 0, 0⟩, ⟨0, 0, 0, 0⟩⟩⟩)] [] (Ls.of (.cons .k1 .nil)) Rs.nil 7 (.on 0 .pu (.on 1 .pu (.on 2 .pu (.on 4 .pu (.on 3 .go (.on 5 .pu (.on 6 .go .nl))))))) follows_mixed (.inb (.thn (.thn (.inb (.inb (.thn (.thn (.inb (.thn .body))))))))) (by kernel_rfl) ?_
  refine .dpu rfl (.n rfl) (P.mov .g2) rfl rfl ?_
  refine .dpu rfl (.n rfl) (P.mov .t1) rfl rfl ?_
  refine .dpu rfl (.n rfl) (P.mov .g7) rfl rfl ?_
  refine .dpu rfl (.n rfl) (P.iac (i := 4) .t2 rfl .g5 runUnderlying60 sizeOf54 rfl rfl) rfl rfl ?_
  refine .dgo rfl (.n rfl) (G.call call74 (.cons .t1 .nil) (S_wide_Of a0 _ rfl) .nil .nil (fun _ _ => rfl) (fun _ _ => rfl) rfl) (.inr fun _ _ _ h => (h.imp (Ls.of (.cons .k1 .nil))).ro Rs.nil) fun _ _ => ?_
  refine .dpu rfl (.n rfl) (P.iac (i := 1) .t2 rfl .t1 runUnderlying54 sizeOf27 rfl rfl) rfl rfl ?_
  refine .dgo rfl (.n rfl) (G.str .t1 .t0 .k0 (.mk (cs' := (purse_Book.cs ⟨⟨(wide_Of a0), (wide_Of a0)⟩, ⟨(wide_Of a0), (wide_Of a0)⟩, ⟨(wide_Of a0), (wide_Of a0)⟩, ⟨(wide_Of a0), (wide_Of a0)⟩, ⟨(wide_Of a0), (wide_Of a0)⟩, ⟨⟨0, 0, 0, 0⟩, ⟨0, 0, 0, 0⟩⟩, ⟨⟨0, 0, 0, 0⟩, ⟨0, 0, 0, 0⟩⟩, ⟨⟨0, 0, 0, 0⟩, ⟨0, 0, 0, 0⟩⟩⟩)) sizeOf27 rfl rfl rfl rfl)) (.inr fun _ _ _ h => (h.imp (Ls.of (.cons .k1 .nil))).ro Rs.nil) fun _ _ => ?_
  refine .dnil ?_
  refine .inn ?_
  refine .then ?_
  refine .reg rfl ?_
  refine .opp (P.bin (v := N 2) .g0 .k (.addc (by decide))) rfl ?_
  refine .drop .k1 ?_
  refine .opp (P.mov .t0) rfl ?_
  refine .nil ?_
  refine .then ?_
  refine .rd ?_
  refine .seq ?_
  refine .reg rfl ?_
  refine .opp (P.bin (v := Bo false) .g0 .k (BinV.lss.boolc (by decide))) rfl ?_
  refine .nil ?_
  refine .then ?_
  refine .seq ?_
  refine .condF .t0 ?_
  refine .exit ?_
  refine .thx ?_
  refine .thx ?_
  refine .inb ?_
  refine .inn ?_
  refine .then ?_
  refine .reg rfl ?_
  refine .opp (P.bin (v := N 5) .g2 .k (.addc (by decide))) rfl ?_
  refine .drop .k3 ?_
  refine .opp (P.mov .t0) rfl ?_
  refine .nil ?_
  refine .then ?_
  refine .rd ?_
  refine .seq ?_
  refine .reg rfl ?_
  refine .opp (P.bin (v := Bo true) .g0 .k (BinV.lss.boolc (by decide))) rfl ?_
  refine .nil ?_
  refine .then ?_
  refine .seq ?_
  refine .condT .t0 ?_
  refine .skip ?_
  refine .then ?_
  refine .seq ?_
  refine .block ?_
  refine .seq ?_
  refine .reg rfl ?_
  refine .opp (P.mov .g0) rfl ?_
  refine .drop .k3 ?_
  refine .opp (P.asg .t0) rfl ?_
  refine .nil ?_
  refine .then ?_
  refine .seq ?_
  refine .reg rfl ?_
  refine .drop .k2 ?_
  refine .opp (P.mov .k) rfl ?_
  refine .nil ?_
  refine .then ?_
  refine .block ?_
  refine .rounds 3 ?_
  refine .rd ?_
  refine .seq ?_
  refine .reg rfl ?_
  refine .opp (P.bin (v := Bo true) .g0 .k (BinV.lss.boolc (by decide))) rfl ?_
  refine .nil ?_
  refine .then ?_
  refine .seq ?_
  refine .condT .t0 ?_
  refine .skip ?_
  refine .then ?_
  refine .seq ?_
  refine .block ?_
  refine .seq ?_
  refine .reg rfl ?_
  refine .opp (P.mov .g0) rfl ?_
  refine .opp (P.asg .t0) rfl ?_
  refine .nil ?_
  refine .then ?_
  refine .drawl [blk b1 60 (purse_Book.cs ⟨⟨⟨0, 0, 0, 0⟩, ⟨0, 0, 0, 0⟩⟩, ⟨⟨0, 0, 0, 0⟩, ⟨0, 0, 0, 0⟩⟩, ⟨⟨0, 0, 0, 0⟩, ⟨0, 0, 0, 0⟩⟩, ⟨⟨0, 0, 0, 0⟩, ⟨0, 0, 0, 0⟩⟩, ⟨⟨0, 0, 0, 0⟩, ⟨0, 0, 0, 0⟩⟩, ⟨⟨0, 0, 0, 0⟩, ⟨0, 0, 0, 0⟩⟩, ⟨⟨0, 0, 0, 0⟩, ⟨0, 0, 0, 0⟩⟩, ⟨⟨0, 0, 0, 0⟩, ⟨0, 0, 0, 0⟩⟩⟩)] [] (Ls.of (.cons .k1 .nil)) Rs.nil 7 (.on 0 .pu (.on 1 .pu (.on 2 .pu (.on 4 .pu (.on 3 .go (.on 5 .pu (.on 6 .go .nl))))))) follows_mixed (.inb (.thn (.thn (.inb (.inb (.thn (.thn (.inb (.thn .body))))))))) (by kernel_rfl) ?_
  refine .dpu rfl (.n rfl) (P.mov .g2) rfl rfl ?_
  refine .dpu rfl (.n rfl) (P.mov .t1) rfl rfl ?_
  refine .dpu rfl (.n rfl) (P.mov .g7) rfl rfl ?_
  refine .dpu rfl (.n rfl) (P.iac (i := 5) .t2 rfl .g5 runUnderlying60 sizeOf54 rfl rfl) rfl rfl ?_
  refine .dgo rfl (.n rfl) (G.call call74 (.cons .t1 .nil) (S_wide_Of a0 _ rfl) .nil .nil (fun _ _ => rfl) (fun _ _ => rfl) rfl) (.inr fun _ _ _ h => (h.imp (Ls.of (.cons .k1 .nil))).ro Rs.nil) fun _ _ => ?_
  refine .dpu rfl (.n rfl) (P.iac (i := 0) .t2 rfl .t1 runUnderlying54 sizeOf27 rfl rfl) rfl rfl ?_
  refine .dgo rfl (.n rfl) (G.str .t1 .t0 .k0 (.mk (cs' := (purse_Book.cs ⟨⟨(wide_Of a0), (wide_Of a0)⟩, ⟨(wide_Of a0), (wide_Of a0)⟩, ⟨(wide_Of a0), (wide_Of a0)⟩, ⟨(wide_Of a0), (wide_Of a0)⟩, ⟨(wide_Of a0), (wide_Of a0)⟩, ⟨(wide_Of a0), ⟨0, 0, 0, 0⟩⟩, ⟨⟨0, 0, 0, 0⟩, ⟨0, 0, 0, 0⟩⟩, ⟨⟨0, 0, 0, 0⟩, ⟨0, 0, 0, 0⟩⟩⟩)) sizeOf27 rfl rfl rfl rfl)) (.inr fun _ _ _ h => (h.imp (Ls.of (.cons .k1 .nil))).ro Rs.nil) fun _ _ => ?_
  refine .dnil ?_
  refine .inn ?_
  refine .then ?_
  refine .reg rfl ?_
  refine .opp (P.bin (v := N 1) .g0 .k (.addc (by decide))) rfl ?_
  refine .drop .k1 ?_
  refine .opp (P.mov .t0) rfl ?_
  refine .nil ?_
  refine .then ?_
  refine .rd ?_
  refine .seq ?_
  refine .reg rfl ?_
  refine .opp (P.bin (v := Bo true) .g0 .k (BinV.lss.boolc (by decide))) rfl ?_
  refine .nil ?_
  refine .then ?_
  refine .seq ?_
  refine .condT .t0 ?_
  refine .skip ?_
  refine .then ?_
  refine .seq ?_
  refine .block ?_
  refine .seq ?_
  refine .reg rfl ?_
  refine .opp (P.mov .g0) rfl ?_
  refine .opp (P.asg .t0) rfl ?_
  refine .nil ?_
  refine .then ?_
  refine .drawl [blk b1 60 (purse_Book.cs ⟨⟨⟨0, 0, 0, 0⟩, ⟨0, 0, 0, 0⟩⟩, ⟨⟨0, 0, 0, 0⟩, ⟨0, 0, 0, 0⟩⟩, ⟨⟨0, 0, 0, 0⟩, ⟨0, 0, 0, 0⟩⟩, ⟨⟨0, 0, 0, 0⟩, ⟨0, 0, 0, 0⟩⟩, ⟨⟨0, 0, 0, 0⟩, ⟨0, 0, 0, 0⟩⟩, ⟨⟨0, 0, 0, 0⟩, ⟨0, 0, 0, 0⟩⟩, ⟨⟨0, 0, 0, 0⟩, ⟨0, 0, 0, 0⟩⟩, ⟨⟨0, 0, 0, 0⟩, ⟨0, 0, 0, 0⟩⟩⟩)] [] (Ls.of (.cons .k1 .nil)) Rs.nil 7 (.on 0 .pu (.on 1 .pu (.on 2 .pu (.on 4 .pu (.on 3 .go (.on 5 .pu (.on 6 .go .nl))))))) follows_mixed (.inb (.thn (.thn (.inb (.inb (.thn (.thn (.inb (.thn .body))))))))) (by kernel_rfl) ?_
  refine .dpu rfl (.n rfl) (P.mov .g2) rfl rfl ?_
  refine .dpu rfl (.n rfl) (P.mov .t1) rfl rfl ?_
  refine .dpu rfl (.n rfl) (P.mov .g7) rfl rfl ?_
  refine .dpu rfl (.n rfl) (P.iac (i := 5) .t2 rfl .g5 runUnderlying60 sizeOf54 rfl rfl) rfl rfl ?_
  refine .dgo rfl (.n rfl) (G.call call74 (.cons .t1 .nil) (S_wide_Of a0 _ rfl) .nil .nil (fun _ _ => rfl) (fun _ _ => rfl) rfl) (.inr fun _ _ _ h => (h.imp (Ls.of (.cons .k1 .nil))).ro Rs.nil) fun _ _ => ?_
  refine .dpu rfl (.n rfl) (P.iac (i := 1) .t2 rfl .t1 runUnderlying54 sizeOf27 rfl rfl) rfl rfl ?_
  refine .dgo rfl (.n rfl) (G.str .t1 .t0 .k0 (.mk (cs' := (purse_Book.cs ⟨⟨(wide_Of a0), (wide_Of a0)⟩, ⟨(wide_Of a0), (wide_Of a0)⟩, ⟨(wide_Of a0), (wide_Of a0)⟩, ⟨(wide_Of a0), (wide_Of a0)⟩, ⟨(wide_Of a0), (wide_Of a0)⟩, ⟨(wide_Of a0), (wide_Of a0)⟩, ⟨⟨0, 0, 0, 0⟩, ⟨0, 0, 0, 0⟩⟩, ⟨⟨0, 0, 0, 0⟩, ⟨0, 0, 0, 0⟩⟩⟩)) sizeOf27 rfl rfl rfl rfl)) (.inr fun _ _ _ h => (h.imp (Ls.of (.cons .k1 .nil))).ro Rs.nil) fun _ _ => ?_
  refine .dnil ?_
  refine .inn ?_
  refine .then ?_
  refine .reg rfl ?_
  refine .opp (P.bin (v := N 2) .g0 .k (.addc (by decide))) rfl ?_
  refine .drop .k1 ?_
  refine .opp (P.mov .t0) rfl ?_
  refine .nil ?_
  refine .then ?_
  refine .rd ?_
  refine .seq ?_
  refine .reg rfl ?_
  refine .opp (P.bin (v := Bo false) .g0 .k (BinV.lss.boolc (by decide))) rfl ?_
  refine .nil ?_
  refine .then ?_
  refine .seq ?_
  refine .condF .t0 ?_
  refine .exit ?_
  refine .thx ?_
  refine .thx ?_
  refine .inb ?_
  refine .inn ?_
  refine .then ?_
  refine .reg rfl ?_
  refine .opp (P.bin (v := N 6) .g2 .k (.addc (by decide))) rfl ?_
  refine .drop .k3 ?_
  refine .opp (P.mov .t0) rfl ?_
  refine .nil ?_
  refine .then ?_
  refine .rd ?_
  refine .seq ?_
  refine .reg rfl ?_
  refine .opp (P.bin (v := Bo true) .g0 .k (BinV.lss.boolc (by decide))) rfl ?_
  refine .nil ?_
  refine .then ?_
  refine .seq ?_
  refine .condT .t0 ?_
  refine .skip ?_
  refine .then ?_
  refine .seq ?_
  refine .block ?_
  refine .seq ?_
  refine .reg rfl ?_
  refine .opp (P.mov .g0) rfl ?_
  refine .drop .k3 ?_
  refine .opp (P.asg .t0) rfl ?_
  refine .nil ?_
  refine .then ?_
  refine .seq ?_
  refine .reg rfl ?_
  refine .drop .k2 ?_
  refine .opp (P.mov .k) rfl ?_
  refine .nil ?_
  refine .then ?_
  refine .block ?_
  refine .rounds 3 ?_
  refine .rd ?_
  refine .seq ?_
  refine .reg rfl ?_
  refine .opp (P.bin (v := Bo true) .g0 .k (BinV.lss.boolc (by decide))) rfl ?_
  refine .nil ?_
  refine .then ?_
  refine .seq ?_
  refine .condT .t0 ?_
  refine .skip ?_
  refine .then ?_
  refine .seq ?_
  refine .block ?_
  refine .seq ?_
  refine .reg rfl ?_
  refine .opp (P.mov .g0) rfl ?_
  refine .opp (P.asg .t0) rfl ?_
  refine .nil ?_
  refine .then ?_
  refine .drawl [blk b1 60 (purse_Book.cs ⟨⟨⟨0, 0, 0, 0⟩, ⟨0, 0, 0, 0⟩⟩, ⟨⟨0, 0, 0, 0⟩, ⟨0, 0, 0, 0⟩⟩, ⟨⟨0, 0, 0, 0⟩, ⟨0, 0, 0, 0⟩⟩, ⟨⟨0, 0, 0, 0⟩, ⟨0, 0, 0, 0⟩⟩, ⟨⟨0, 0, 0, 0⟩, ⟨0, 0, 0, 0⟩⟩, ⟨⟨0, 0, 0, 0⟩, ⟨0, 0, 0, 0⟩⟩, ⟨⟨0, 0, 0, 0⟩, ⟨0, 0, 0, 0⟩⟩, ⟨⟨0, 0, 0, 0⟩, ⟨0, 0, 0, 0⟩⟩⟩)] [] (Ls.of (.cons .k1 .nil)) Rs.nil 7 (.on 0 .pu (.on 1 .pu (.on 2 .pu (.on 4 .pu (.on 3 .go (.on 5 .pu (.on 6 .go .nl))))))) follows_mixed (.inb (.thn (.thn (.inb (.inb (.thn (.thn (.inb (.thn .body))))))))) (by kernel_rfl) ?_
  refine .dpu rfl (.n rfl) (P.mov .g2) rfl rfl ?_
  refine .dpu rfl (.n rfl) (P.mov .t1) rfl rfl ?_
  refine .dpu rfl (.n rfl) (P.mov .g7) rfl rfl ?_
  refine .dpu rfl (.n rfl) (P.iac (i := 6) .t2 rfl .g5 runUnderlying60 sizeOf54 rfl rfl) rfl rfl ?_
  refine .dgo rfl (.n rfl) (G.call call74 (.cons .t1 .nil) (S_wide_Of a0 _ rfl) .nil .nil (fun _ _ => rfl) (fun _ _ => rfl) rfl) (.inr fun _ _ _ h => (h.imp (Ls.of (.cons .k1 .nil))).ro Rs.nil) fun _ _ => ?_
  refine .dpu rfl (.n rfl) (P.iac (i := 0) .t2 rfl .t1 runUnderlying54 sizeOf27 rfl rfl) rfl rfl ?_
  refine .dgo rfl (.n rfl) (G.str .t1 .t0 .k0 (.mk (cs' := (purse_Book.cs ⟨⟨(wide_Of a0), (wide_Of a0)⟩, ⟨(wide_Of a0), (wide_Of a0)⟩, ⟨(wide_Of a0), (wide_Of a0)⟩, ⟨(wide_Of a0), (wide_Of a0)⟩, ⟨(wide_Of a0), (wide_Of a0)⟩, ⟨(wide_Of a0), (wide_Of a0)⟩, ⟨(wide_Of a0), ⟨0, 0, 0, 0⟩⟩, ⟨⟨0, 0, 0, 0⟩, ⟨0, 0, 0, 0⟩⟩⟩)) sizeOf27 rfl rfl rfl rfl)) (.inr fun _ _ _ h => (h.imp (Ls.of (.cons .k1 .nil))).ro Rs.nil) fun _ _ => ?_
  refine .dnil ?_
  refine .inn ?_
  refine .then ?_
  refine .reg rfl ?_
  refine .opp (P.bin (v := N 1) .g0 .k (.addc (by decide))) rfl ?_
  refine .drop .k1 ?_
  refine .opp (P.mov .t0) rfl ?_
  refine .nil ?_
  refine .then ?_
  refine .rd ?_
  refine .seq ?_
  refine .reg rfl ?_
  refine .opp (P.bin (v := Bo true) .g0 .k (BinV.lss.boolc (by decide))) rfl ?_
  refine .nil ?_
  refine .then ?_
  refine .seq ?_
  refine .condT .t0 ?_
  refine .skip ?_
  refine .then ?_
  refine .seq ?_
  refine .block ?_
  refine .seq ?_
  refine .reg rfl ?_
  refine .opp (P.mov .g0) rfl ?_
  refine .opp (P.asg .t0) rfl ?_
  refine .nil ?_
  refine .then ?_
  refine .drawl [blk b1 60 (purse_Book.cs ⟨⟨⟨0, 0, 0, 0⟩, ⟨0, 0, 0, 0⟩⟩, ⟨⟨0, 0, 0, 0⟩, ⟨0, 0, 0, 0⟩⟩, ⟨⟨0, 0, 0, 0⟩, ⟨0, 0, 0, 0⟩⟩, ⟨⟨0, 0, 0, 0⟩, ⟨0, 0, 0, 0⟩⟩, ⟨⟨0, 0, 0, 0⟩, ⟨0, 0, 0, 0⟩⟩, ⟨⟨0, 0, 0, 0⟩, ⟨0, 0, 0, 0⟩⟩, ⟨⟨0, 0, 0, 0⟩, ⟨0, 0, 0, 0⟩⟩, ⟨⟨0, 0, 0, 0⟩, ⟨0, 0, 0, 0⟩⟩⟩)] [] (Ls.of (.cons .k1 .nil)) Rs.nil 7 (.on 0 .pu (.on 1 .pu (.on 2 .pu (.on 4 .pu (.on 3 .go (.on 5 .pu (.on 6 .go .nl))))))) follows_mixed (.inb (.thn (.thn (.inb (.inb (.thn (.thn (.inb (.thn .body))))))))) (by kernel_rfl) ?_
  refine .dpu rfl (.n rfl) (P.mov .g2) rfl rfl ?_
  refine .dpu rfl (.n rfl) (P.mov .t1) rfl rfl ?_
  refine .dpu rfl (.n rfl) (P.mov .g7) rfl rfl ?_
  refine .dpu rfl (.n rfl) (P.iac (i := 6) .t2 rfl .g5 runUnderlying60 sizeOf54 rfl rfl) rfl rfl ?_
  refine .dgo rfl (.n rfl) (G.call call74 (.cons .t1 .nil) (S_wide_Of a0 _ rfl) .nil .nil (fun _ _ => rfl) (fun _ _ => rfl) rfl) (.inr fun _ _ _ h => (h.imp (Ls.of (.cons .k1 .nil))).ro Rs.nil) fun _ _ => ?_
  refine .dpu rfl (.n rfl) (P.iac (i := 1) .t2 rfl .t1 runUnderlying54 sizeOf27 rfl rfl) rfl rfl ?_
  refine .dgo rfl (.n rfl) (G.str .t1 .t0 .k0 (.mk (cs' := (purse_Book.cs ⟨⟨(wide_Of a0), (wide_Of a0)⟩, ⟨(wide_Of a0), (wide_Of a0)⟩, ⟨(wide_Of a0), (wide_Of a0)⟩, ⟨(wide_Of a0), (wide_Of a0)⟩, ⟨(wide_Of a0), (wide_Of a0)⟩, ⟨(wide_Of a0), (wide_Of a0)⟩, ⟨(wide_Of a0), (wide_Of a0)⟩, ⟨⟨0, 0, 0, 0⟩, ⟨0, 0, 0, 0⟩⟩⟩)) sizeOf27 rfl rfl rfl rfl)) (.inr fun _ _ _ h => (h.imp (Ls.of (.cons .k1 .nil))).ro Rs.nil) fun _ _ => ?_
  refine .dnil ?_
  refine .inn ?_
  refine .then ?_
  refine .reg rfl ?_
  refine .opp (P.bin (v := N 2) .g0 .k (.addc (by decide))) rfl ?_
  refine .drop .k1 ?_
  refine .opp (P.mov .t0) rfl ?_
  refine .nil ?_
  refine .then ?_
  refine .rd ?_
  refine .seq ?_
  refine .reg rfl ?_
  refine .opp (P.bin (v := Bo false) .g0 .k (BinV.lss.boolc (by decide))) rfl ?_
  refine .nil ?_
  refine .then ?_
  refine .seq ?_
  refine .condF .t0 ?_
  refine .exit ?_
  refine .thx ?_
  refine .thx ?_
  refine .inb ?_
  refine .inn ?_
  refine .then ?_
  refine .reg rfl ?_
  refine .opp (P.bin (v := N 7) .g2 .k (.addc (by decide))) rfl ?_
  refine .drop .k3 ?_
  refine .opp (P.mov .t0) rfl ?_
  refine .nil ?_
  refine .then ?_
  refine .rd ?_
  refine .seq ?_
  refine .reg rfl ?_
  refine .opp (P.bin (v := Bo true) .g0 .k (BinV.lss.boolc (by decide))) rfl ?_
  refine .nil ?_
  refine .then ?_
  refine .seq ?_
  refine .condT .t0 ?_
  refine .skip ?_
  refine .then ?_
  refine .seq ?_
  refine .block ?_
  refine .seq ?_
  refine .reg rfl ?_
  refine .opp (P.mov .g0) rfl ?_
  refine .drop .k3 ?_
  refine .opp (P.asg .t0) rfl ?_
  refine .nil ?_
  refine .then ?_
  refine .seq ?_
  refine .reg rfl ?_
  refine .drop .k2 ?_
  refine .opp (P.mov .k) rfl ?_
  refine .nil ?_
  refine .then ?_
  refine .block ?_
  refine .rounds 3 ?_
  refine .rd ?_
  refine .seq ?_
  refine .reg rfl ?_
  refine .opp (P.bin (v := Bo true) .g0 .k (BinV.lss.boolc (by decide))) rfl ?_
  refine .nil ?_
  refine .then ?_
  refine .seq ?_
  refine .condT .t0 ?_
  refine .skip ?_
  refine .then ?_
  refine .seq ?_
  refine .block ?_
  refine .seq ?_
  refine .reg rfl ?_
  refine .opp (P.mov .g0) rfl ?_
  refine .opp (P.asg .t0) rfl ?_
  refine .nil ?_
  refine .then ?_
  refine .drawl [blk b1 60 (purse_Book.cs ⟨⟨⟨0, 0, 0, 0⟩, ⟨0, 0, 0, 0⟩⟩, ⟨⟨0, 0, 0, 0⟩, ⟨0, 0, 0, 0⟩⟩, ⟨⟨0, 0, 0, 0⟩, ⟨0, 0, 0, 0⟩⟩, ⟨⟨0, 0, 0, 0⟩, ⟨0, 0, 0, 0⟩⟩, ⟨⟨0, 0, 0, 0⟩, ⟨0, 0, 0, 0⟩⟩, ⟨⟨0, 0, 0, 0⟩, ⟨0, 0, 0, 0⟩⟩, ⟨⟨0, 0, 0, 0⟩, ⟨0, 0, 0, 0⟩⟩, ⟨⟨0, 0, 0, 0⟩, ⟨0, 0, 0, 0⟩⟩⟩)] [] (Ls.of (.cons .k1 .nil)) Rs.nil 7 (.on 0 .pu (.on 1 .pu (.on 2 .pu (.on 4 .pu (.on 3 .go (.on 5 .pu (.on 6 .go .nl))))))) follows_mixed (.inb (.thn (.thn (.inb (.inb (.thn (.thn (.inb (.thn .body))))))))) (by kernel_rfl) ?_
  refine .dpu rfl (.n rfl) (P.mov .g2) rfl rfl ?_
  refine .dpu rfl (.n rfl) (P.mov .t1) rfl rfl ?_
  refine .dpu rfl (.n rfl) (P.mov .g7) rfl rfl ?_
  refine .dpu rfl (.n rfl) (P.iac (i := 7) .t2 rfl .g5 runUnderlying60 sizeOf54 rfl rfl) rfl rfl ?_
  refine .dgo rfl (.n rfl) (G.call call74 (.cons .t1 .nil) (S_wide_Of a0 _ rfl) .nil .nil (fun _ _ => rfl) (fun _ _ => rfl) rfl) (.inr fun _ _ _ h => (h.imp (Ls.of (.cons .k1 .nil))).ro Rs.nil) fun _ _ => ?_
  refine .dpu rfl (.n rfl) (P.iac (i := 0) .t2 rfl .t1 runUnderlying54 sizeOf27 rfl rfl) rfl rfl ?_
  refine .dgo rfl (.n rfl) (G.str .t1 .t0 .k0 (.mk (cs' := (purse_Book.cs ⟨⟨(wide_Of a0), (wide_Of a0)⟩, ⟨(wide_Of a0), (wide_Of a0)⟩, ⟨(wide_Of a0), (wide_Of a0)⟩, ⟨(wide_Of a0), (wide_Of a0)⟩, ⟨(wide_Of a0), (wide_Of a0)⟩, ⟨(wide_Of a0), (wide_Of a0)⟩, ⟨(wide_Of a0), (wide_Of a0)⟩, ⟨(wide_Of a0), ⟨0, 0, 0, 0⟩⟩⟩)) sizeOf27 rfl rfl rfl rfl)) (.inr fun _ _ _ h => (h.imp (Ls.of (.cons .k1 .nil))).ro Rs.nil) fun _ _ => ?_
  refine .dnil ?_
  refine .inn ?_
  refine .then ?_
  refine .reg rfl ?_
  refine .opp (P.bin (v := N 1) .g0 .k (.addc (by decide))) rfl ?_
  refine .drop .k1 ?_
  refine .opp (P.mov .t0) rfl ?_
  refine .nil ?_
  refine .then ?_
  refine .rd ?_
  refine .seq ?_
  refine .reg rfl ?_
  refine .opp (P.bin (v := Bo true) .g0 .k (BinV.lss.boolc (by decide))) rfl ?_
  refine .nil ?_
  refine .then ?_
  refine .seq ?_
  refine .condT .t0 ?_
  refine .skip ?_
  refine .then ?_
  refine .seq ?_
  refine .block ?_
  refine .seq ?_
  refine .reg rfl ?_
  refine .opp (P.mov .g0) rfl ?_
  refine .opp (P.asg .t0) rfl ?_
  refine .nil ?_
  refine .then ?_
  refine .drawl [blk b1 60 (purse_Book.cs ⟨⟨⟨0, 0, 0, 0⟩, ⟨0, 0, 0, 0⟩⟩, ⟨⟨0, 0, 0, 0⟩, ⟨0, 0, 0, 0⟩⟩, ⟨⟨0, 0, 0, 0⟩, ⟨0, 0, 0, 0⟩⟩, ⟨⟨0, 0, 0, 0⟩, ⟨0, 0, 0, 0⟩⟩, ⟨⟨0, 0, 0, 0⟩, ⟨0, 0, 0, 0⟩⟩, ⟨⟨0, 0, 0, 0⟩, ⟨0, 0, 0, 0⟩⟩, ⟨⟨0, 0, 0, 0⟩, ⟨0, 0, 0, 0⟩⟩, ⟨⟨0, 0, 0, 0⟩, ⟨0, 0, 0, 0⟩⟩⟩)] [] (Ls.of (.cons .k1 .nil)) Rs.nil 7 (.on 0 .pu (.on 1 .pu (.on 2 .pu (.on 4 .pu (.on 3 .go (.on 5 .pu (.on 6 .go .nl))))))) follows_mixed (.inb (.thn (.thn (.inb (.inb (.thn (.thn (.inb (.thn .body))))))))) (by kernel_rfl) ?_
  refine .dpu rfl (.n rfl) (P.mov .g2) rfl rfl ?_
  refine .dpu rfl (.n rfl) (P.mov .t1) rfl rfl ?_
  refine .dpu rfl (.n rfl) (P.mov .g7) rfl rfl ?_
  refine .dpu rfl (.n rfl) (P.iac (i := 7) .t2 rfl .g5 runUnderlying60 sizeOf54 rfl rfl) rfl rfl ?_
  refine .dgo rfl (.n rfl) (G.call call74 (.cons .t1 .nil) (S_wide_Of a0 _ rfl) .nil .nil (fun _ _ => rfl) (fun _ _ => rfl) rfl) (.inr fun _ _ _ h => (h.imp (Ls.of (.cons .k1 .nil))).ro Rs.nil) fun _ _ => ?_
  refine .dpu rfl (.n rfl) (P.iac (i := 1) .t2 rfl .t1 runUnderlying54 sizeOf27 rfl rfl) rfl rfl ?_
  refine .dgo rfl (.n rfl) (G.str .t1 .t0 .k0 (.mk (cs' := (purse_Book.cs ⟨⟨(wide_Of a0), (wide_Of a0)⟩, ⟨(wide_Of a0), (wide_Of a0)⟩, ⟨(wide_Of a0), (wide_Of a0)⟩, ⟨(wide_Of a0), (wide_Of a0)⟩, ⟨(wide_Of a0), (wide_Of a0)⟩, ⟨(wide_Of a0), (wide_Of a0)⟩, ⟨(wide_Of a0), (wide_Of a0)⟩, ⟨(wide_Of a0), (wide_Of a0)⟩⟩)) sizeOf27 rfl rfl rfl rfl)) (.inr fun _ _ _ h => (h.imp (Ls.of (.cons .k1 .nil))).ro Rs.nil) fun _ _ => ?_
  refine .dnil ?_
  refine .inn ?_
  refine .then ?_
  refine .reg rfl ?_
  refine .opp (P.bin (v := N 2) .g0 .k (.addc (by decide))) rfl ?_
  refine .drop .k1 ?_
  refine .opp (P.mov .t0) rfl ?_
  refine .nil ?_
  refine .then ?_
  refine .rd ?_
  refine .seq ?_
  refine .reg rfl ?_
  refine .opp (P.bin (v := Bo false) .g0 .k (BinV.lss.boolc (by decide))) rfl ?_
  refine .nil ?_
  refine .then ?_
  refine .seq ?_
  refine .condF .t0 ?_
  refine .exit ?_
  refine .thx ?_
  refine .thx ?_
  refine .inb ?_
  refine .inn ?_
  refine .then ?_
  refine .reg rfl ?_
  refine .opp (P.bin (v := N 8) .g2 .k (.addc (by decide))) rfl ?_
  refine .drop .k3 ?_
  refine .opp (P.mov .t0) rfl ?_
  refine .nil ?_
  refine .then ?_
  refine .rd ?_
  refine .seq ?_
  refine .reg rfl ?_
  refine .opp (P.bin (v := Bo false) .g0 .k (BinV.lss.boolc (by decide))) rfl ?_
  refine .nil ?_
  refine .then ?_
  refine .seq ?_
  refine .condF .t0 ?_
  refine .exit ?_
  refine .thx ?_
  refine .thx ?_
  refine .inb ?_
  refine .then ?_
  refine .seq ?_
  refine .reg rfl ?_
  refine .op (V.ld (v := Ag (purse_Book.cs ⟨⟨(wide_Of a0), (wide_Of a0)⟩, ⟨(wide_Of a0), (wide_Of a0)⟩, ⟨(wide_Of a0), (wide_Of a0)⟩, ⟨(wide_Of a0), (wide_Of a0)⟩, ⟨(wide_Of a0), (wide_Of a0)⟩, ⟨(wide_Of a0), (wide_Of a0)⟩, ⟨(wide_Of a0), (wide_Of a0)⟩, ⟨(wide_Of a0), (wide_Of a0)⟩⟩)) .t3 .k0 (.agg isAgg60 sizeOf60 rfl rfl)) rfl ?_
  refine .opg (G.str .t0 .g3 .k1 (.mk (cs' := (purse_Book.cs ⟨⟨(wide_Of a0), (wide_Of a0)⟩, ⟨(wide_Of a0), (wide_Of a0)⟩, ⟨(wide_Of a0), (wide_Of a0)⟩, ⟨(wide_Of a0), (wide_Of a0)⟩, ⟨(wide_Of a0), (wide_Of a0)⟩, ⟨(wide_Of a0), (wide_Of a0)⟩, ⟨(wide_Of a0), (wide_Of a0)⟩, ⟨(wide_Of a0), (wide_Of a0)⟩⟩)) sizeOf60 rfl rfl rfl rfl)) rfl fun _ _ => ?_
  refine .nil ?_
  refine .then ?_
  refine .ret ?_
  subst h
  exact .finw () (.r1 rfl (.cell .g3 .k0 (.agg isAgg60 sizeOf60 rfl rfl))) trivial (Ls.of .nil) .nil
attribute [irreducible] purse_Even
noncomputable def escrow_Genesis (a0 : Int) (a1 : Int) : escrow_State :=
  (⟨if 1 < if 0 > a0 then 0 else a0 then 1 else if 0 > a0 then 0 else a0, if 1099511627776 < if 0 > a1 then 0 else a1 then 1099511627776 else if 0 > a1 then 0 else a1, (purse_Even 1000), ⟨⟨⟨0, 0, 0, 0⟩, ⟨0, 0, 0, 0⟩⟩, ⟨⟨0, 0, 0, 0⟩, ⟨0, 0, 0, 0⟩⟩, ⟨⟨0, 0, 0, 0⟩, ⟨0, 0, 0, 0⟩⟩, ⟨⟨0, 0, 0, 0⟩, ⟨0, 0, 0, 0⟩⟩, ⟨⟨0, 0, 0, 0⟩, ⟨0, 0, 0, 0⟩⟩, ⟨⟨0, 0, 0, 0⟩, ⟨0, 0, 0, 0⟩⟩, ⟨⟨0, 0, 0, 0⟩, ⟨0, 0, 0, 0⟩⟩, ⟨⟨0, 0, 0, 0⟩, ⟨0, 0, 0, 0⟩⟩⟩, ⟨0, 0, 0, 0, 0, 0, 0, 0⟩, ⟨⟨0, 0, 0, 0⟩, ⟨0, 0, 0, 0⟩⟩, ⟨0, 0, 0, 0⟩, []⟩ : escrow_State)
set_option maxRecDepth 20000 in
set_option maxHeartbeats 1000000 in
theorem S_escrow_Genesis (a0 : Int) (a1 : Int) (r : escrow_State) (h : escrow_Genesis a0 a1 = r) :
    SpecF Try.prog 54 [N a0, N a1] [] [] (fun _ : Value => True) (fun z => Ag (escrow_State.cs r z)) (fun z M =>  M) (fun z M => rows 3 z (r.Locks.map escrow_Lock.cs) ::  M) := by
  refine .of func54 rfl ntmps54 rfl fun w0 D0 G0 => ?_
  unfold escrow_Genesis at h
  refine .seq ?_
  refine .reg rfl ?_
  refine .opx (X.alc (cs := (escrow_State.cs ⟨0, 0, ⟨⟨⟨0, 0, 0, 0⟩, ⟨0, 0, 0, 0⟩⟩, ⟨⟨0, 0, 0, 0⟩, ⟨0, 0, 0, 0⟩⟩, ⟨⟨0, 0, 0, 0⟩, ⟨0, 0, 0, 0⟩⟩, ⟨⟨0, 0, 0, 0⟩, ⟨0, 0, 0, 0⟩⟩, ⟨⟨0, 0, 0, 0⟩, ⟨0, 0, 0, 0⟩⟩, ⟨⟨0, 0, 0, 0⟩, ⟨0, 0, 0, 0⟩⟩, ⟨⟨0, 0, 0, 0⟩, ⟨0, 0, 0, 0⟩⟩, ⟨⟨0, 0, 0, 0⟩, ⟨0, 0, 0, 0⟩⟩⟩, ⟨⟨⟨0, 0, 0, 0⟩, ⟨0, 0, 0, 0⟩⟩, ⟨⟨0, 0, 0, 0⟩, ⟨0, 0, 0, 0⟩⟩, ⟨⟨0, 0, 0, 0⟩, ⟨0, 0, 0, 0⟩⟩, ⟨⟨0, 0, 0, 0⟩, ⟨0, 0, 0, 0⟩⟩, ⟨⟨0, 0, 0, 0⟩, ⟨0, 0, 0, 0⟩⟩, ⟨⟨0, 0, 0, 0⟩, ⟨0, 0, 0, 0⟩⟩, ⟨⟨0, 0, 0, 0⟩, ⟨0, 0, 0, 0⟩⟩, ⟨⟨0, 0, 0, 0⟩, ⟨0, 0, 0, 0⟩⟩⟩, ⟨0, 0, 0, 0, 0, 0, 0, 0⟩, ⟨⟨0, 0, 0, 0⟩, ⟨0, 0, 0, 0⟩⟩, ⟨0, 0, 0, 0⟩, []⟩ nilSl)) zeroValue64 rfl) rfl fun b1 => ?_
  refine .nil ?_
  refine .then ?_
  refine .seq ?_
  refine .reg rfl ?_
  refine .opp (P.mov .t1) rfl ?_
  refine .opp (P.max2 .t0 .k) rfl ?_
  refine .opp (P.min2 .t0 .k) rfl ?_
  refine .opp (P.mov .t2) rfl ?_
  refine .opp (P.max2 .t0 .k) rfl ?_
  refine .opp (P.min2 .t0 .k) rfl ?_
  refine .opg (G.call call112 (.cons .k .nil) (S_purse_Even 1000 _ rfl) .nil .nil (fun _ _ => rfl) (fun _ _ => rfl) rfl) rfl fun _ _ => ?_
  refine .opp (P.bld (v := Ag (escrow_State.cs ⟨if 1 < if 0 > a0 then 0 else a0 then 1 else if 0 > a0 then 0 else a0, if 1099511627776 < if 0 > a1 then 0 else a1 then 1099511627776 else if 0 > a1 then 0 else a1, (purse_Even 1000), ⟨⟨⟨0, 0, 0, 0⟩, ⟨0, 0, 0, 0⟩⟩, ⟨⟨0, 0, 0, 0⟩, ⟨0, 0, 0, 0⟩⟩, ⟨⟨0, 0, 0, 0⟩, ⟨0, 0, 0, 0⟩⟩, ⟨⟨0, 0, 0, 0⟩, ⟨0, 0, 0, 0⟩⟩, ⟨⟨0, 0, 0, 0⟩, ⟨0, 0, 0, 0⟩⟩, ⟨⟨0, 0, 0, 0⟩, ⟨0, 0, 0, 0⟩⟩, ⟨⟨0, 0, 0, 0⟩, ⟨0, 0, 0, 0⟩⟩, ⟨⟨0, 0, 0, 0⟩, ⟨0, 0, 0, 0⟩⟩⟩, ⟨0, 0, 0, 0, 0, 0, 0, 0⟩, ⟨⟨0, 0, 0, 0⟩, ⟨0, 0, 0, 0⟩⟩, ⟨0, 0, 0, 0⟩, []⟩ nilSl)) (.cons .t2 (.cons .t1 (.cons .t0 .nil))) (bld_run zeroValue64 runUnderlying64 pl_64 (by kernel_rfl))) rfl ?_
  refine .opg (G.str .t0 .g0 .k0 (.mk (cs' := (escrow_State.cs ⟨if 1 < if 0 > a0 then 0 else a0 then 1 else if 0 > a0 then 0 else a0, if 1099511627776 < if 0 > a1 then 0 else a1 then 1099511627776 else if 0 > a1 then 0 else a1, (purse_Even 1000), ⟨⟨⟨0, 0, 0, 0⟩, ⟨0, 0, 0, 0⟩⟩, ⟨⟨0, 0, 0, 0⟩, ⟨0, 0, 0, 0⟩⟩, ⟨⟨0, 0, 0, 0⟩, ⟨0, 0, 0, 0⟩⟩, ⟨⟨0, 0, 0, 0⟩, ⟨0, 0, 0, 0⟩⟩, ⟨⟨0, 0, 0, 0⟩, ⟨0, 0, 0, 0⟩⟩, ⟨⟨0, 0, 0, 0⟩, ⟨0, 0, 0, 0⟩⟩, ⟨⟨0, 0, 0, 0⟩, ⟨0, 0, 0, 0⟩⟩, ⟨⟨0, 0, 0, 0⟩, ⟨0, 0, 0, 0⟩⟩⟩, ⟨0, 0, 0, 0, 0, 0, 0, 0⟩, ⟨⟨0, 0, 0, 0⟩, ⟨0, 0, 0, 0⟩⟩, ⟨0, 0, 0, 0⟩, []⟩ nilSl)) sizeOf64 rfl (onez_64 _ rfl) rfl rfl)) rfl fun _ _ => ?_
  refine .nil ?_
  refine .then ?_
  refine .ret ?_
  subst h
  refine .rnil0 3 ?_
  exact .finw nilSl (.r1 rfl (.cell .g0 .k0 (.agg isAgg64 sizeOf64 rfl rfl))) trivial (Ls.of .nil) (.cons Mm.m0 .nil)
attribute [irreducible] escrow_Genesis
noncomputable def deadline_over (a0 : deadline_Due) : Bool :=
  decide (a0.Left ≤ 0)
set_option maxRecDepth 20000 in
set_option maxHeartbeats 1000000 in
theorem S_deadline_over (a0 : deadline_Due) (r : Bool) (h : deadline_over a0 = r) :
    SpecF Try.prog 108 [Ag (deadline_Due.cs a0)] [] [] (fun _ : Unit => True) (fun z => Bo r) (fun z M =>  M) (fun z M =>  M) := by
  refine .of func108 rfl ntmps108 rfl fun w0 D0 G0 => ?_
  unfold deadline_over at h
  refine .seq ?_
  refine .reg rfl ?_
  refine .opx (X.box (cs := (deadline_Due.cs a0)) .t0 rfl) rfl fun b1 => ?_
  refine .op0 (OpP.toV (P.asg .k)) rfl ?_
  refine .nil ?_
  refine .then ?_
  refine .seq ?_
  refine .reg rfl ?_
  refine .opp (P.fa .t0 fa_101_2 rfl) rfl ?_
  refine .op (V.ld (v := N a0.Left) .t0 .k0 (.one isAgg3 rfl)) rfl ?_
  refine .opp (P.bin .t0 .k .leq) rfl ?_
  refine .opp (P.asg .t0) rfl ?_
  refine .nil ?_
  refine .then ?_
  refine .ret ?_
  subst h
  exact .finw () (.r1 rfl (.tmp .g0)) trivial (Ls.of .nil) .nil
attribute [irreducible] deadline_over
noncomputable def slices_Clone_i110 (a0 : List deadline_Due) : Option ((List deadline_Due)) :=
  grd ((([] : List deadline_Due).length + a0.length) * 32 ≤ 140737488355328) <| some (((([] : List deadline_Due) ++ a0)))
set_option maxRecDepth 20000 in
set_option maxHeartbeats 1000000 in
theorem S_slices_Clone_i110 (v00 : Value) (a0 : List deadline_Due) (r : (List deadline_Due)) (h : slices_Clone_i110 a0 = some r) :
    SpecF Try.prog 110 [v00] [] [rows 3 v00 (a0.map deadline_Due.cs)] (fun _ : Value => True) (fun z => z) (fun z M => lst 101 3 z (r.map deadline_Due.cs) ::  M) (fun z M =>  M) := by
  refine .of func110 rfl ntmps110 rfl fun w0 D0 G0 => ?_
  unfold slices_Clone_i110 at h
  refine .seq ?_
  refine .reg rfl ?_
  refine .op0 (OpP.toV (P.asg .k)) rfl ?_
  refine .nil ?_
  refine .then ?_
  refine .seq ?_
  refine .seq ?_
  refine .reg rfl ?_
  refine .opp (P.mov .g0) rfl ?_
  refine .opg (G.nilr (e := 101) .t0 Mm.m0 (by kernel_rfl) rfl) rfl fun n1 hz2 => ?_
  refine .nil ?_
  refine .then ?_
  refine .cond .t0 (fun c3 => ?_) (fun c3 => ?_)
  · have hx7 : a0 = [] := by simpa using hz2 c3
    replace h : some ([] : List deadline_Due) = some r := by rw [hx7] at h; simpa [grd] using h
    refine .seq ?_
    refine .reg rfl ?_
    refine .opp (P.asg .k) rfl ?_
    refine .nil ?_
    refine .then ?_
    refine .ret ?_
    refine .thr ?_
    cases h
    refine .lnil 101 3 ?_
    exact .finw nilSl (.r1 rfl (.tmp .g0)) trivial (Ls.of (.cons .k0 .nil)) .nil
  · refine .skip ?_
    refine .then ?_
    refine .seq ?_
    refine .reg rfl ?_
    refine .opg (G.bsl0 runUnderlying99 sizeOf101 rfl) rfl fun u4 _ => ?_
    refine .opp (P.mov .t1) rfl ?_
    obtain ⟨hb6, h⟩ := grd_eq h
    refine .opg (G.app (by_ := 32) .t1 .t0 .k0 (.inl Mm.m0) runUnderlying99 runUnderlying99 sizeOf101 typeInfo101 rfl rfl zeroValue101 rfl (one_map one_101 _) (by simpa using hb6) rfl) rfl fun u5 _ => ?_
    refine .conseq .k0 (q := lst 101 3 u5 (((([] : List deadline_Due) ++ a0)).map deadline_Due.cs)) (fun _ hh => by simpa [List.map_append] using hh) ?_
    refine .opp (P.asg .t0) rfl ?_
    refine .nil ?_
    refine .then ?_
    refine .ret ?_
    cases h
    exact .finw u5 (.r1 rfl (.tmp .g0)) trivial (Ls.of (.cons .k0 .nil)) .nil
attribute [irreducible] slices_Clone_i110
noncomputable def deadline_Next (a0 : List deadline_Due) : Option (deadline_Due × Bool) :=
  Option.bind (loopR (fun (i2 : Nat) (e5 : deadline_Due) (s3 : Unit) => if (!((deadline_over e5))) = true then (Option.map Ct.rt (some (e5, true))) else (some (.nx ()))) 0 a0 ()) fun o6 => Lo.on o6 fun (s3 : Unit) => some (⟨⟨#[]⟩, 0, 0⟩, false)
set_option maxRecDepth 20000 in
set_option maxHeartbeats 1000000 in
theorem S_deadline_Next (v00 : Value) (a0 : List deadline_Due) (r : deadline_Due × Bool) (h : deadline_Next a0 = some r) :
    SpecF Try.prog 50 [v00] [] [rows 3 v00 (a0.map deadline_Due.cs)] (fun _ : Unit => True) (fun z => Tu [Ag (deadline_Due.cs r.1), Bo r.2]) (fun z M =>  M) (fun z M =>  M) := by
  refine .of func50 rfl ntmps50 rfl fun w0 D0 G0 => ?_
  unfold deadline_Next at h
  refine .seq ?_
  refine .reg rfl ?_
  refine .opx (X.alc (cs := (deadline_Due.cs ⟨⟨#[]⟩, 0, 0⟩)) zeroValue101 rfl) rfl fun b1 => ?_
  refine .op0 (OpP.toV (P.asg .k)) rfl ?_
  refine .nil ?_
  refine .then ?_
  refine .seq ?_
  refine .seq ?_
  refine .reg rfl ?_
  refine .opp (P.mov .t1) rfl ?_
  refine .op (V.lnr (n := a0.length) .g0 Mm.m0 map_len runUnderlying99) rfl ?_
  refine .opp (P.mov .k) rfl ?_
  refine .nil ?_
  refine .then ?_
  refine .block ?_
  obtain ⟨o6, ho7, h⟩ := bnd_eq h
  refine .lenq Mm.m0 fun hl13 => ?_
  rw [map_len] at hl13
  refine .loopR (γ := Unit) (fun i2 (s3 : Unit) z4 => [(8, N ((i2 : Int))), (7, N ((a0.length : Int))), (6, v00), (2, pt b1 0)]) (fun (s3 : Unit) z4 => [blk b1 101 (deadline_Due.cs ⟨⟨#[]⟩, 0, 0⟩)]) (fun (s3 : Unit) z4 => [rows 3 v00 (a0.map deadline_Due.cs)]) () ho7 (.cons Mm.m0 (.cons Mm.m1 (.cons Mm.m2 (.cons Mm.m3 .nil)))) (.of (.cons .k0 .nil)) (.cons Mm.m0 .nil) (fun i2 s3 z4 hi14 hr10 => ?_)
  refine .seq ?_
  refine .reg rfl ?_
  refine .opp (P.bin (v := Bo (decide ((i2 : Int) < (a0.length : Nat)))) .g0 .g1 .lss) rfl ?_
  refine .nil ?_
  refine .then ?_
  refine .seq ?_
  refine .cond .t0 (fun c15 => ?_) (fun c15 => ?_)
  · obtain ⟨e5, hx12⟩ := get_of c15
    obtain ⟨ct11, hc8, hn9⟩ := loopR_at hx12 hr10
    refine .skip ?_
    refine .then ?_
    refine .seq ?_
    refine .block ?_
    refine .seq ?_
    refine .reg rfl ?_
    refine .ixq Mm.m0 (map_get hx12) fun p16 q17 hq18 => ?_
    refine .opp (P.ixi (i := i2) .g0 rfl .g2 hq18 runUnderlying99 sizeOf101) rfl ?_
    refine .op (V.ldx0 (u := Ag (deadline_Due.cs e5)) .t0 hq18 Mm.m0 (map_get hx12) (.agg isAgg101 sizeOf101 rfl rfl)) rfl ?_
    refine .opx (X.alc (cs := (deadline_Due.cs ⟨⟨#[]⟩, 0, 0⟩)) zeroValue101 rfl) rfl fun b19 => ?_
    refine .opg (G.str .t1 .g0 .k0 (.mk (cs' := (deadline_Due.cs e5)) sizeOf101 rfl rfl rfl rfl)) rfl fun _ _ => ?_
    refine .nil ?_
    refine .then ?_
    refine .seq ?_
    refine .reg rfl ?_
    refine .op (V.ld (v := Ag (deadline_Due.cs e5)) .g0 .k0 (.agg isAgg101 sizeOf101 rfl rfl)) rfl ?_
    refine .opg (G.call call108 (.cons .t0 .nil) (S_deadline_over e5 _ rfl) .nil .nil (fun _ _ => rfl) (fun _ _ => rfl) rfl) rfl fun _ _ => ?_
    refine .opp (P.not .t0) rfl ?_
    refine .nil ?_
    refine .then ?_
    refine .cond .t0 (fun c20 => ?_) (fun c20 => ?_)
    · rw [if_pos c20] at hc8
      refine .seq ?_
      refine .reg rfl ?_
      refine .op (V.ld (v := Ag (deadline_Due.cs e5)) .t0 .k0 (.agg isAgg101 sizeOf101 rfl rfl)) rfl ?_
      refine .opg (G.str .t0 .g3 .k1 (.mk (cs' := (deadline_Due.cs e5)) sizeOf101 rfl rfl rfl rfl)) rfl fun _ _ => ?_
      refine .opp (P.asg .k) rfl ?_
      refine .nil ?_
      refine .then ?_
      refine .ret ?_
      refine .inr ?_
      refine .thr ?_
      obtain ⟨x21, hx22, rfl⟩ := map_rt hc8
      obtain rfl := hn9
      obtain rfl := rt_on h
      refine .thr ?_
      refine .inr ?_
      refine .thr ?_
      cases hx22
      exact .finw () (.r2 rfl (.cell .g4 .k0 (.agg isAgg101 sizeOf101 rfl rfl)) (.tmp .g0)) trivial (Ls.of .nil) .nil
    · rw [if_neg (ne_true_of_eq_false c20)] at hc8
      refine .skip ?_
      refine .inn ?_
      refine .then ?_
      refine .reg rfl ?_
      refine .opp (P.bin .g1 .k (.addc (inc_ok (lt_of_get hx12) hl13))) rfl ?_
      refine .drop .k2 ?_
      refine .opp (P.mov .t0) rfl ?_
      refine .nil ?_
      cases hc8
      exact .rdR () () hn9 (lt_of_get hx12) (.cons Mm.m0 (.cons Mm.m2 (.cons Mm.m3 (.cons Mm.m4 .nil)))) (.of (.cons .k1 .nil)) (.cons Mm.m0 .nil)
  · obtain rfl := loopR_end (le_of_not c15) hr10
    have h := dn_on h
    refine .exit ?_
    refine .thx ?_
    refine .thx ?_
    refine .inb ?_
    refine .then ?_
    refine .seq ?_
    refine .reg rfl ?_
    refine .opp (P.bld (v := Ag (deadline_Due.cs ⟨⟨#[]⟩, 0, 0⟩)) .nil (bld_run zeroValue101 runUnderlying101 pl_101 (by kernel_rfl))) rfl ?_
    refine .opg (G.str .t0 .g3 .k0 (.mk (cs' := (deadline_Due.cs ⟨⟨#[]⟩, 0, 0⟩)) sizeOf101 rfl rfl rfl rfl)) rfl fun _ _ => ?_
    refine .opp (P.asg .k) rfl ?_
    refine .nil ?_
    refine .then ?_
    refine .ret ?_
    cases h
    exact .finw () (.r2 rfl (.cell .g4 .k0 (.agg isAgg101 sizeOf101 rfl rfl)) (.tmp .g0)) trivial (Ls.of .nil) .nil
attribute [irreducible] deadline_Next
noncomputable def deadline_Within (a0 : List deadline_Due) (a1 : Int) : Option (Int) :=
  Option.bind (loopR (fun (i1 : Nat) (e4 : deadline_Due) (s2 : Int) => thn (thn (if (!((deadline_over e4))) = true then (decide (e4.Left ≤ a1)) else false) fun (y22 : Bool) => if y22 = true then (IntKind.i64.wrap (s2 + 1)) else s2) fun (y15 : Int) => some (.nx y15)) 0 a0 0) fun o5 => Lo.on o5 fun (s2 : Int) => some s2
set_option maxRecDepth 20000 in
set_option maxHeartbeats 1000000 in
theorem S_deadline_Within (v00 : Value) (a0 : List deadline_Due) (a1 : Int) (r : Int) (h : deadline_Within a0 a1 = some r) :
    SpecF Try.prog 52 [v00, N a1] [] [rows 3 v00 (a0.map deadline_Due.cs)] (fun _ : Unit => True) (fun z => N r) (fun z M =>  M) (fun z M =>  M) := by
  refine .of func52 rfl ntmps52 rfl fun w0 D0 G0 => ?_
  unfold deadline_Within at h
  refine .seq ?_
  refine .reg rfl ?_
  refine .op0 (OpP.toV (P.asg .k)) rfl ?_
  refine .nil ?_
  refine .then ?_
  refine .seq ?_
  refine .reg rfl ?_
  refine .opp (P.asg .k) rfl ?_
  refine .nil ?_
  refine .then ?_
  refine .seq ?_
  refine .seq ?_
  refine .reg rfl ?_
  refine .opp (P.mov .t1) rfl ?_
  refine .op (V.lnr (n := a0.length) .g0 Mm.m0 map_len runUnderlying99) rfl ?_
  refine .opp (P.mov .k) rfl ?_
  refine .nil ?_
  refine .then ?_
  refine .block ?_
  obtain ⟨o5, ho6, h⟩ := bnd_eq h
  refine .lenq Mm.m0 fun hl12 => ?_
  rw [map_len] at hl12
  refine .loopR (γ := Unit) (fun i1 (s2 : Int) z3 => [(10, N ((i1 : Int))), (9, N ((a0.length : Int))), (8, v00), (5, N s2), (1, N a1)]) (fun (s2 : Int) z3 => []) (fun (s2 : Int) z3 => [rows 3 v00 (a0.map deadline_Due.cs)]) () ho6 (.cons Mm.m0 (.cons Mm.m1 (.cons Mm.m2 (.cons Mm.m3 (.cons Mm.m4 .nil))))) (.of .nil) (.cons Mm.m0 .nil) (fun i1 s2 z3 hi13 hr9 => ?_)
  refine .seq ?_
  refine .reg rfl ?_
  refine .opp (P.bin (v := Bo (decide ((i1 : Int) < (a0.length : Nat)))) .g0 .g1 .lss) rfl ?_
  refine .nil ?_
  refine .then ?_
  refine .seq ?_
  refine .cond .t0 (fun c14 => ?_) (fun c14 => ?_)
  · obtain ⟨e4, hx11⟩ := get_of c14
    obtain ⟨ct10, hc7, hn8⟩ := loopR_at hx11 hr9
    refine .skip ?_
    refine .then ?_
    obtain ⟨y15, hj17, hc7⟩ := thn_eq hc7
    refine .cutx (γ := Unit) (E1 := fun z16 => [(5, N y15), (10, N ((i1 : Int))), (9, N ((a0.length : Int))), (8, v00), (1, N a1)]) (L1 := fun z16 => []) (R1 := fun z16 => [rows 3 v00 (a0.map deadline_Due.cs)]) ?_ (fun z16 => ?_)
    · clear hc7
      refine .block ?_
      refine .seq ?_
      refine .reg rfl ?_
      refine .ixq Mm.m0 (map_get hx11) fun p18 q19 hq20 => ?_
      refine .opp (P.ixi (i := i1) .g0 rfl .g2 hq20 runUnderlying99 sizeOf101) rfl ?_
      refine .op (V.ldx0 (u := Ag (deadline_Due.cs e4)) .t0 hq20 Mm.m0 (map_get hx11) (.agg isAgg101 sizeOf101 rfl rfl)) rfl ?_
      refine .opx (X.alc (cs := (deadline_Due.cs ⟨⟨#[]⟩, 0, 0⟩)) zeroValue101 rfl) rfl fun b21 => ?_
      refine .opg (G.str .t1 .g0 .k0 (.mk (cs' := (deadline_Due.cs e4)) sizeOf101 rfl rfl rfl rfl)) rfl fun _ _ => ?_
      refine .nil ?_
      refine .then ?_
      obtain ⟨y22, hj24, hj17⟩ := thn_eq hj17
      refine .cutx (γ := Unit) (E1 := fun z23 => [(22, Bo y22), (10, N ((i1 : Int))), (9, N ((a0.length : Int))), (8, v00), (5, N s2), (1, N a1)]) (L1 := fun z23 => []) (R1 := fun z23 => [rows 3 v00 (a0.map deadline_Due.cs)]) ?_ (fun z23 => ?_)
      · clear hj17
        refine .reg rfl ?_
        refine .op (V.ld (v := Ag (deadline_Due.cs e4)) .g0 .k0 (.agg isAgg101 sizeOf101 rfl rfl)) rfl ?_
        refine .opg (G.call call108 (.cons .t0 .nil) (S_deadline_over e4 _ rfl) .nil .nil (fun _ _ => rfl) (fun _ _ => rfl) rfl) rfl fun _ _ => ?_
        refine .opp (P.not .t0) rfl ?_
        refine .opp (P.mov .t0) rfl ?_
        refine .split .k0 (fun c25 => ?_) (fun c25 => ?_)
        · rw [if_pos c25] at hj24
          refine .gyes rfl .g0 ?_
          refine .opp (P.fa .t1 fa_101_2 rfl) rfl ?_
          refine .gyes rfl .g1 ?_
          refine .op (V.ld (v := N e4.Left) .t0 .k0 (.one isAgg3 rfl)) rfl ?_
          refine .gyes rfl .g1 ?_
          refine .opp (P.mov .g6) rfl ?_
          refine .gyes rfl .g2 ?_
          refine .opp (P.bin .t1 .t0 .leq) rfl ?_
          refine .opp (P.pickT .t1 .t0) rfl ?_
          refine .nil ?_
          subst hj24
          exact .stj () (.cons Mm.m0 (.cons Mm.m1 (.cons Mm.m2 (.cons Mm.m3 (.cons Mm.m4 (.cons Mm.m5 .nil)))))) (.of .nil) (.cons Mm.m0 .nil)
        · rw [if_neg (ne_true_of_eq_false c25)] at hj24
          refine .gno rfl .g0 rfl rfl ?_
          refine .gno rfl .g0 rfl rfl ?_
          refine .gno rfl .g0 rfl rfl ?_
          refine .gno rfl .g0 rfl rfl ?_
          refine .opp (P.pickF .t0 .k) rfl ?_
          refine .nil ?_
          subst hj24
          exact .stj () (.cons Mm.m0 (.cons Mm.m2 (.cons Mm.m3 (.cons Mm.m4 (.cons Mm.m5 (.cons Mm.m6 .nil)))))) (.of .nil) (.cons Mm.m0 .nil)
      · clear hj24
        refine .cond .t0 (fun c26 => ?_) (fun c26 => ?_)
        · rw [if_pos c26] at hj17
          refine .reg rfl ?_
          refine .opp (P.mov .g3) rfl ?_
          refine .opp (P.bin .t0 .k .add) rfl ?_
          refine .drop .k4 ?_
          refine .opp (P.asg .t0) rfl ?_
          refine .nil ?_
          refine .inn ?_
          subst hj17
          exact .stj () (.cons Mm.m0 (.cons Mm.m1 (.cons Mm.m2 (.cons Mm.m3 (.cons Mm.m4 .nil))))) (.of .nil) (.cons Mm.m0 .nil)
        · rw [if_neg (ne_true_of_eq_false c26)] at hj17
          refine .skip ?_
          refine .inn ?_
          subst hj17
          exact .stj () (.cons Mm.m3 (.cons Mm.m0 (.cons Mm.m1 (.cons Mm.m2 (.cons Mm.m4 .nil))))) (.of .nil) (.cons Mm.m0 .nil)
    · clear hj17
      refine .reg rfl ?_
      refine .opp (P.bin .g1 .k (.addc (inc_ok (lt_of_get hx11) hl12))) rfl ?_
      refine .drop .k2 ?_
      refine .opp (P.mov .t0) rfl ?_
      refine .nil ?_
      cases hc7
      exact .rdR y15 () hn8 (lt_of_get hx11) (.cons Mm.m0 (.cons Mm.m2 (.cons Mm.m3 (.cons Mm.m1 (.cons Mm.m4 .nil))))) (.of .nil) (.cons Mm.m0 .nil)
  · obtain rfl := loopR_end (le_of_not c14) hr9
    have h := dn_on h
    refine .exit ?_
    refine .thx ?_
    refine .thx ?_
    refine .inb ?_
    refine .then ?_
    refine .seq ?_
    refine .reg rfl ?_
    refine .opp (P.mov .t3) rfl ?_
    refine .opp (P.asg .t0) rfl ?_
    refine .nil ?_
    refine .then ?_
    refine .ret ?_
    cases h
    exact .finw () (.r1 rfl (.tmp .g0)) trivial (Ls.of .nil) .nil
attribute [irreducible] deadline_Within
noncomputable def deadline_Past_1 (a0 : deadline_Due) : Bool :=
  !((deadline_over a0))
set_option maxRecDepth 20000 in
set_option maxHeartbeats 1000000 in
theorem S_deadline_Past_1 (a0 : deadline_Due) (r : Bool) (h : deadline_Past_1 a0 = r) :
    SpecF Try.prog 111 [Ag (deadline_Due.cs a0)] [] [] (fun _ : Unit => True) (fun z => Bo r) (fun z M =>  M) (fun z M =>  M) := by
  refine .of func111 rfl ntmps111 rfl fun w0 D0 G0 => ?_
  unfold deadline_Past_1 at h
  refine .seq ?_
  refine .reg rfl ?_
  refine .opx (X.box (cs := (deadline_Due.cs a0)) .t0 rfl) rfl fun b1 => ?_
  refine .op0 (OpP.toV (P.asg .k)) rfl ?_
  refine .nil ?_
  refine .then ?_
  refine .seq ?_
  refine .reg rfl ?_
  refine .op (V.ld (v := Ag (deadline_Due.cs a0)) .t0 .k0 (.agg isAgg101 sizeOf101 rfl rfl)) rfl ?_
  refine .opg (G.call call108 (.cons .t0 .nil) (S_deadline_over a0 _ rfl) .nil .nil (fun _ _ => rfl) (fun _ _ => rfl) rfl) rfl fun _ _ => ?_
  refine .opp (P.not .t0) rfl ?_
  refine .opp (P.asg .t0) rfl ?_
  refine .nil ?_
  refine .then ?_
  refine .ret ?_
  subst h
  exact .finw () (.r1 rfl (.tmp .g0)) trivial (Ls.of .nil) .nil
attribute [irreducible] deadline_Past_1
noncomputable def slices_IndexFunc_i159_f111 (a0 : List deadline_Due) : Option (Int) :=
  Option.bind (loopR (fun (i1 : Nat) (e4 : deadline_Due) (s2 : Unit) => if ((deadline_Past_1 e4)) = true then (Option.map Ct.rt (some (i1 : Int))) else (some (.nx ()))) 0 a0 ()) fun o5 => Lo.on o5 fun (s2 : Unit) => some (-1)
set_option maxRecDepth 20000 in
set_option maxHeartbeats 1000000 in
theorem S_slices_IndexFunc_i159_f111 (v00 : Value) (a0 : List deadline_Due) (r : Int) (h : slices_IndexFunc_i159_f111 a0 = some r) :
    SpecF Try.prog 159 [v00, fnv 111 []] [] [rows 3 v00 (a0.map deadline_Due.cs)] (fun _ : Unit => True) (fun z => N r) (fun z M =>  M) (fun z M =>  M) := by
  refine .of func159 rfl ntmps159 rfl fun w0 D0 G0 => ?_
  unfold slices_IndexFunc_i159_f111 at h
  refine .seq ?_
  refine .reg rfl ?_
  refine .op0 (OpP.toV (P.asg .k)) rfl ?_
  refine .nil ?_
  refine .then ?_
  refine .seq ?_
  refine .seq ?_
  refine .reg rfl ?_
  refine .opp (P.mov .g0) rfl ?_
  refine .op (V.lnr (n := a0.length) .t0 Mm.m0 map_len runUnderlying99) rfl ?_
  refine .opp (P.mov .k) rfl ?_
  refine .nil ?_
  refine .then ?_
  refine .block ?_
  obtain ⟨o5, ho6, h⟩ := bnd_eq h
  refine .lenq Mm.m0 fun hl12 => ?_
  rw [map_len] at hl12
  refine .loopR (γ := Unit) (fun i1 (s2 : Unit) z3 => [(8, N ((i1 : Int))), (7, N ((a0.length : Int))), (0, v00), (1, fnv 111 [])]) (fun (s2 : Unit) z3 => []) (fun (s2 : Unit) z3 => [rows 3 v00 (a0.map deadline_Due.cs)]) () ho6 (.cons Mm.m0 (.cons Mm.m1 (.cons Mm.m2 (.cons Mm.m3 .nil)))) (.of .nil) (.cons Mm.m0 .nil) (fun i1 s2 z3 hi13 hr9 => ?_)
  refine .seq ?_
  refine .reg rfl ?_
  refine .opp (P.bin (v := Bo (decide ((i1 : Int) < (a0.length : Nat)))) .g0 .g1 .lss) rfl ?_
  refine .nil ?_
  refine .then ?_
  refine .seq ?_
  refine .cond .t0 (fun c14 => ?_) (fun c14 => ?_)
  · obtain ⟨e4, hx11⟩ := get_of c14
    obtain ⟨ct10, hc7, hn8⟩ := loopR_at hx11 hr9
    refine .skip ?_
    refine .then ?_
    refine .seq ?_
    refine .block ?_
    refine .seq ?_
    refine .reg rfl ?_
    refine .opp (P.mov .g0) rfl ?_
    refine .opp (P.asg .t0) rfl ?_
    refine .nil ?_
    refine .then ?_
    refine .seq ?_
    refine .reg rfl ?_
    refine .opp (P.mov .g4) rfl ?_
    refine .opp (P.mov .g4) rfl ?_
    refine .opp (P.mov .g2) rfl ?_
    refine .ixq Mm.m0 (map_get hx11) fun p15 q16 hq17 => ?_
    refine .opp (P.ixi (i := i1) .t0 rfl .t0 hq17 runUnderlying99 sizeOf101) rfl ?_
    refine .op (V.ldx0 (u := Ag (deadline_Due.cs e4)) .t0 hq17 Mm.m0 (map_get hx11) (.agg isAgg101 sizeOf101 rfl rfl)) rfl ?_
    refine .opg (G.callv call111 .t1 (.cons .t0 .nil) (S_deadline_Past_1 e4 _ rfl) .nil .nil (fun _ _ => rfl) (fun _ _ => rfl) rfl) rfl fun _ _ => ?_
    refine .nil ?_
    refine .then ?_
    refine .cond .t0 (fun c18 => ?_) (fun c18 => ?_)
    · rw [if_pos c18] at hc7
      refine .seq ?_
      refine .reg rfl ?_
      refine .opp (P.mov .t0) rfl ?_
      refine .opp (P.asg .t0) rfl ?_
      refine .nil ?_
      refine .then ?_
      refine .ret ?_
      refine .inr ?_
      refine .thr ?_
      obtain ⟨x19, hx20, rfl⟩ := map_rt hc7
      obtain rfl := hn8
      obtain rfl := rt_on h
      refine .thr ?_
      refine .inr ?_
      refine .thr ?_
      cases hx20
      exact .finw () (.r1 rfl (.tmp .g0)) trivial (Ls.of .nil) .nil
    · rw [if_neg (ne_true_of_eq_false c18)] at hc7
      refine .skip ?_
      refine .inn ?_
      refine .then ?_
      refine .reg rfl ?_
      refine .opp (P.bin .g1 .k (.addc (inc_ok (lt_of_get hx11) hl12))) rfl ?_
      refine .drop .k2 ?_
      refine .opp (P.mov .t0) rfl ?_
      refine .nil ?_
      cases hc7
      exact .rdR () () hn8 (lt_of_get hx11) (.cons Mm.m0 (.cons Mm.m2 (.cons Mm.m3 (.cons Mm.m4 .nil)))) (.of .nil) (.cons Mm.m0 .nil)
  · obtain rfl := loopR_end (le_of_not c14) hr9
    have h := dn_on h
    refine .exit ?_
    refine .thx ?_
    refine .thx ?_
    refine .inb ?_
    refine .then ?_
    refine .seq ?_
    refine .reg rfl ?_
    refine .opp (P.asg .k) rfl ?_
    refine .nil ?_
    refine .then ?_
    refine .ret ?_
    cases h
    exact .finw () (.r1 rfl (.tmp .g0)) trivial (Ls.of .nil) .nil
attribute [irreducible] slices_IndexFunc_i159_f111
noncomputable def slices_DeleteFunc_i109_o_f111 (a0 : List deadline_Due) : Option ((List deadline_Due)) :=
  Option.bind (slices_IndexFunc_i159_f111 a0) fun r1 => if (decide (r1 = ((-1)))) = true then (some a0) else (Option.bind (loopW (fun (s4 : Int × Int × (List deadline_Due)) => if (decide (s4.1 < ((s4.2.2.length : Int)))) = true then (Option.bind (Option.bind (at_ s4.2.2 s4.1) fun (x20 : deadline_Due) => if (!((deadline_Past_1 x20))) = true then (Option.bind (at_ s4.2.2 s4.2.1) fun (x29 : deadline_Due) => some ((IntKind.i64.wrap (s4.2.1 + 1), (s4.2.2.set ((s4.2.1).toNat) (x20 : deadline_Due))))) else (some (s4.2.1, s4.2.2))) fun (y14 : Int × (List deadline_Due)) => some (.nx ((IntKind.i64.wrap (s4.1 + 1), y14.1, y14.2)))) else (some (.br (s4.1, s4.2.1, s4.2.2)))) ((IntKind.i64.wrap (r1 + 1), r1, a0))) fun o6 => Lo.on o6 fun (s4 : Int × Int × (List deadline_Due)) => grd (0 ≤ s4.2.1 ∧ s4.2.1 ≤ s4.2.2.length) <| grd (0 ≤ s4.2.1 ∧ s4.2.1 ≤ ((((s4.2.2.take (s4.2.1).toNat) ++ List.replicate (s4.2.2.length - (s4.2.1).toNat) (⟨⟨#[]⟩, 0, 0⟩ : deadline_Due)))).length) <| some (((((((s4.2.2.take (s4.2.1).toNat) ++ List.replicate (s4.2.2.length - (s4.2.1).toNat) (⟨⟨#[]⟩, 0, 0⟩ : deadline_Due)))).take (s4.2.1).toNat))))
set_option maxRecDepth 20000 in
set_option maxHeartbeats 1000000 in
theorem S_slices_DeleteFunc_i109_o_f111 (v00 : Value) (a0 : List deadline_Due) (r : (List deadline_Due)) (h : slices_DeleteFunc_i109_o_f111 a0 = some r) :
    SpecF Try.prog 109 [v00, fnv 111 []] [lst 101 3 v00 (a0.map deadline_Due.cs)] [] (fun _ : Value => True) (fun z => z) (fun z M => lst 101 3 z (r.map deadline_Due.cs) ::  M) (fun z M =>  M) := by
  refine .of func109 rfl ntmps109 rfl fun w0 D0 G0 => ?_
  unfold slices_DeleteFunc_i109_o_f111 at h
  refine .seq ?_
  refine .reg rfl ?_
  refine .op0 (OpP.toV (P.asg .k)) rfl ?_
  refine .nil ?_
  refine .then ?_
  refine .seq ?_
  refine .reg rfl ?_
  refine .opp (P.mov .g0) rfl ?_
  refine .opp (P.mov .g2) rfl ?_
  obtain ⟨r1, hr2, h⟩ := bnd_eq h
  refine .opg (G.calll call159 (.cons .t1 (.cons .t0 .nil)) (S_slices_IndexFunc_i159_f111 v00 a0 r1 hr2) .nil (.imp (List.mem_append_right _ Mm.m0) (fun _ => lst_rows) .nil) (fun _ _ => rfl) rfl) rfl fun _ _ => ?_
  refine .opp (P.asg .t0) rfl ?_
  refine .nil ?_
  refine .then ?_
  refine .seq ?_
  refine .seq ?_
  refine .reg rfl ?_
  refine .opp (P.mov .g0) rfl ?_
  refine .opp (P.bin .t0 .k .eql) rfl ?_
  refine .nil ?_
  refine .then ?_
  refine .cond .t0 (fun c3 => ?_) (fun c3 => ?_)
  · rw [if_pos c3] at h
    refine .seq ?_
    refine .reg rfl ?_
    refine .opp (P.mov .t1) rfl ?_
    refine .opp (P.asg .t0) rfl ?_
    refine .nil ?_
    refine .then ?_
    refine .ret ?_
    refine .thr ?_
    cases h
    exact .finw v00 (.r1 rfl (.tmp .g0)) trivial (Ls.of (.cons .k0 .nil)) .nil
  · rw [if_neg (ne_true_of_eq_false c3)] at h
    refine .skip ?_
    refine .then ?_
    refine .seq ?_
    refine .seq ?_
    refine .reg rfl ?_
    refine .opp (P.mov .g0) rfl ?_
    refine .opp (P.bin .t0 .k .add) rfl ?_
    refine .opp (P.asg .t0) rfl ?_
    refine .nil ?_
    refine .then ?_
    refine .block ?_
    obtain ⟨o6, ho7, h⟩ := bnd_eq h
    refine .loopW (γ := Unit) (fun (s4 : Int × Int × (List deadline_Due)) z5 => [(6, N s4.1), (5, N s4.2.1), (0, v00), (1, fnv 111 [])]) (fun (s4 : Int × Int × (List deadline_Due)) z5 => [lst 101 3 v00 (s4.2.2.map deadline_Due.cs)]) (fun (s4 : Int × Int × (List deadline_Due)) z5 => []) () ho7 (.cons Mm.m0 (.cons Mm.m1 (.cons Mm.m2 (.cons Mm.m3 .nil)))) (.of (.cons .k0 .nil)) .nil (fun n12 s4 z5 hr10 => ?_)
    obtain ⟨ct11, hc8, hn9⟩ := loopK_at hr10
    refine .seq ?_
    refine .seq ?_
    refine .reg rfl ?_
    refine .opp (P.mov .g0) rfl ?_
    refine .opp (P.mov .g3) rfl ?_
    refine .op (V.lnl (n := s4.2.2.length) .t0 .k0 map_len runUnderlying99) rfl ?_
    refine .opp (P.bin .t1 .t0 .lss) rfl ?_
    refine .nil ?_
    refine .then ?_
    refine .cond .t0 (fun c13 => ?_) (fun c13 => ?_)
    · rw [if_pos c13] at hc8
      refine .skip ?_
      refine .then ?_
      obtain ⟨y14, hj16, hc8⟩ := bnd_eq hc8
      refine .cutx (γ := Unit) (E1 := fun z15 => [(5, N y14.1), (6, N s4.1), (0, v00), (1, fnv 111 [])]) (L1 := fun z15 => [lst 101 3 v00 (y14.2.map deadline_Due.cs)]) (R1 := fun z15 => []) ?_ (fun z15 => ?_)
      · clear hc8
        refine .block ?_
        refine .seq ?_
        refine .reg rfl ?_
        refine .opp (P.mov .g2) rfl ?_
        refine .opp (P.mov .g1) rfl ?_
        obtain ⟨x20, hx21, hj16⟩ := bnd_eq hj16
        obtain ⟨i22, hi23, hx21⟩ := at_eq hx21
        have hi23_ : (s4.1).toNat = i22 := by rw [hi23]; rfl
        refine .ixql .k0 (map_get hx21) fun p17 q18 hq19 => ?_
        refine .opp (P.ixi (i := i22) .t0 hi23 .t0 hq19 runUnderlying99 sizeOf101) rfl ?_
        refine .op (V.ldxl0 (u := Ag (deadline_Due.cs x20)) .t0 hq19 .k0 (map_get hx21) (.agg isAgg101 sizeOf101 rfl rfl)) rfl ?_
        refine .opx (X.alc (cs := (deadline_Due.cs ⟨⟨#[]⟩, 0, 0⟩)) zeroValue101 rfl) rfl fun b24 => ?_
        refine .opg (G.str .t1 .g0 .k0 (.mk (cs' := (deadline_Due.cs x20)) sizeOf101 rfl rfl rfl rfl)) rfl fun _ _ => ?_
        refine .nil ?_
        refine .then ?_
        refine .seq ?_
        refine .reg rfl ?_
        refine .opp (P.mov .g4) rfl ?_
        refine .op (V.ld (v := Ag (deadline_Due.cs x20)) .g1 .k0 (.agg isAgg101 sizeOf101 rfl rfl)) rfl ?_
        refine .opg (G.callv call111 .t1 (.cons .t0 .nil) (S_deadline_Past_1 x20 _ rfl) .nil .nil (fun _ _ => rfl) (fun _ _ => rfl) rfl) rfl fun _ _ => ?_
        refine .opp (P.not .t0) rfl ?_
        refine .nil ?_
        refine .then ?_
        refine .cond .t0 (fun c25 => ?_) (fun c25 => ?_)
        · rw [if_pos c25] at hj16
          refine .seq ?_
          refine .reg rfl ?_
          refine .opp (P.mov .g3) rfl ?_
          refine .opp (P.mov .g3) rfl ?_
          refine .op (V.ld (v := Ag (deadline_Due.cs x20)) .t2 .k0 (.agg isAgg101 sizeOf101 rfl rfl)) rfl ?_
          obtain ⟨x29, hx30, hj16⟩ := bnd_eq hj16
          obtain ⟨i31, hi32, hx30⟩ := at_eq hx30
          have hi32_ : (s4.2.1).toNat = i31 := by rw [hi32]; rfl
          refine .ixql .k1 (map_get hx30) fun p26 q27 hq28 => ?_
          refine .opp (P.ixi (i := i31) .t1 hi32 .t1 hq28 runUnderlying99 sizeOf101) rfl ?_
          refine .opg (G.stx (off := q27) (k := 0) (cs' := (deadline_Due.cs x20)) .t1 .t0 hq28 .k1 (map_get hx30) (.mk sizeOf101 rfl rfl rfl rfl)) rfl fun _ _ => ?_
          refine .conseq .k0 (q := lst 101 3 v00 (((s4.2.2.set ((s4.2.1).toNat) (x20 : deadline_Due))).map deadline_Due.cs)) (fun _ h_ => by rw [hi32_]; simpa [List.map_set] using h_) ?_
          refine .nil ?_
          refine .then ?_
          refine .reg rfl ?_
          refine .opp (P.mov .g1) rfl ?_
          refine .opp (P.bin .t0 .k .add) rfl ?_
          refine .drop .k2 ?_
          refine .opp (P.asg .t0) rfl ?_
          refine .nil ?_
          refine .inn ?_
          cases hj16
          exact .stj () (.cons Mm.m0 (.cons Mm.m1 (.cons Mm.m2 (.cons Mm.m3 .nil)))) (.of (.cons .k0 .nil)) .nil
        · rw [if_neg (ne_true_of_eq_false c25)] at hj16
          refine .skip ?_
          refine .inn ?_
          cases hj16
          exact .stj () (.cons Mm.m2 (.cons Mm.m1 (.cons Mm.m3 (.cons Mm.m4 .nil)))) (.of (.cons .k1 .nil)) .nil
      · clear hj16
        refine .reg rfl ?_
        refine .opp (P.mov .g1) rfl ?_
        refine .opp (P.bin .t0 .k .add) rfl ?_
        refine .drop .k2 ?_
        refine .opp (P.asg .t0) rfl ?_
        refine .nil ?_
        cases hc8
        obtain ⟨m33, hm34, hn9⟩ := hn9
        exact .rdW ((IntKind.i64.wrap (s4.1 + 1), y14.1, y14.2)) () hm34 hn9 (.cons Mm.m0 (.cons Mm.m1 (.cons Mm.m2 (.cons Mm.m3 .nil)))) (.of (.cons .k0 .nil)) .nil
    · rw [if_neg (ne_true_of_eq_false c13)] at hc8
      refine .exit ?_
      refine .thx ?_
      cases hc8
      refine .told (γ := Unit) h hn9 (fun (s4 : Int × Int × (List deadline_Due)) _ => [(6, N s4.1), (5, N s4.2.1), (0, v00), (1, fnv 111 [])]) (fun (s4 : Int × Int × (List deadline_Due)) _ => [lst 101 3 v00 (s4.2.2.map deadline_Due.cs)]) (fun (s4 : Int × Int × (List deadline_Due)) _ => []) () (.cons Mm.m0 (.cons Mm.m1 (.cons Mm.m2 (.cons Mm.m3 .nil)))) (.of (.cons .k0 .nil)) .nil (fun s4 _ h' => ?_)
      replace h := h'
      refine .thx ?_
      refine .inb ?_
      refine .then ?_
      refine .seq ?_
      refine .reg rfl ?_
      refine .opp (P.mov .g2) rfl ?_
      refine .opp (P.mov .g2) rfl ?_
      obtain ⟨hb37, h⟩ := grd_eq h
      refine .opg (G.slt (m := s4.2.1) .t1 .t0 .k0 runUnderlying99 sizeOf101 hb37.1 (by simpa using hb37.2) rfl) rfl fun u35 hq36 => ?_
      have hm38 : (s4.2.1).toNat ≤ s4.2.2.length := by have := hb37; omega
      refine .opg (G.clr (cs := (deadline_Due.cs ⟨⟨#[]⟩, 0, 0⟩)) (m := (s4.2.1).toNat) .t0 (by simpa using hq36) .k0 runUnderlying99 zeroValue101 rfl rfl rfl rfl (by simpa using hm38)) rfl fun _ _ => ?_
      refine .conseq .k0 (q := lst 101 3 v00 ((((s4.2.2.take (s4.2.1).toNat) ++ List.replicate (s4.2.2.length - (s4.2.1).toNat) (⟨⟨#[]⟩, 0, 0⟩ : deadline_Due))).map deadline_Due.cs)) (fun _ hh => by simpa [List.map_take, List.map_replicate, List.map_append] using hh) ?_
      refine .nil ?_
      refine .then ?_
      refine .seq ?_
      refine .reg rfl ?_
      refine .opp (P.mov .t2) rfl ?_
      refine .opp (P.mov .t2) rfl ?_
      obtain ⟨hb40, h⟩ := grd_eq h
      refine .opg (G.sll (m := s4.2.1) .t1 .t0 .k0 runUnderlying99 sizeOf101 hb40.1 (by simpa using hb40.2) rfl) rfl fun u39 _ => ?_
      refine .conseq .k0 (q := lst 101 3 u39 (((((((s4.2.2.take (s4.2.1).toNat) ++ List.replicate (s4.2.2.length - (s4.2.1).toNat) (⟨⟨#[]⟩, 0, 0⟩ : deadline_Due)))).take (s4.2.1).toNat)).map deadline_Due.cs)) (fun _ hh => by simpa using hh) ?_
      refine .opp (P.asg .t0) rfl ?_
      refine .nil ?_
      refine .then ?_
      refine .ret ?_
      cases h
      exact .finw u39 (.r1 rfl (.tmp .g0)) trivial (Ls.of (.cons .k0 .nil)) .nil
attribute [irreducible] slices_DeleteFunc_i109_o_f111
noncomputable def deadline_Past (a0 : List deadline_Due) : Option ((List deadline_Due)) :=
  Option.bind (slices_Clone_i110 a0) fun r1 => Option.bind (slices_DeleteFunc_i109_o_f111 r1) fun r4 => some r4
set_option maxRecDepth 20000 in
set_option maxHeartbeats 1000000 in
theorem S_deadline_Past (v00 : Value) (a0 : List deadline_Due) (r : (List deadline_Due)) (h : deadline_Past a0 = some r) :
    SpecF Try.prog 51 [v00] [] [rows 3 v00 (a0.map deadline_Due.cs)] (fun _ : Value => True) (fun z => z) (fun z M => lst 101 3 z (r.map deadline_Due.cs) ::  M) (fun z M =>  M) := by
  refine .of func51 rfl ntmps51 rfl fun w0 D0 G0 => ?_
  unfold deadline_Past at h
  refine .seq ?_
  refine .reg rfl ?_
  refine .op0 (OpP.toV (P.asg .k)) rfl ?_
  refine .nil ?_
  refine .then ?_
  refine .seq ?_
  refine .reg rfl ?_
  refine .opp (P.mov .t0) rfl ?_
  obtain ⟨r1, hr2, h⟩ := bnd_eq h
  refine .opg (G.call call110 (.cons .t0 .nil) (S_slices_Clone_i110 v00 a0 r1 hr2) .nil (.cons Mm.m0 .nil) (fun _ _ => rfl) (fun _ _ => rfl) rfl) rfl fun u3 _ => ?_
  obtain ⟨r4, hr5, h⟩ := bnd_eq h
  refine .opg (G.call call109 (.cons .t0 (.cons .f .nil)) (S_slices_DeleteFunc_i109_o_f111 u3 r1 r4 hr5) (.cons .k0 .nil) .nil (fun _ _ => rfl) (fun _ _ => rfl) rfl) rfl fun u6 _ => ?_
  refine .opp (P.asg .t0) rfl ?_
  refine .nil ?_
  refine .then ?_
  refine .ret ?_
  cases h
  exact .finw u6 (.r1 rfl (.tmp .g0)) trivial (Ls.of (.cons .k0 .nil)) .nil
attribute [irreducible] deadline_Past
noncomputable def scan_Deals (a0 : List api_Event) : Option ((List api_Tx)) :=
  Option.bind (loopR (fun (i1 : Nat) (e4 : api_Event) (s2 : (List api_Tx)) => Option.bind (thn (if (decide (e4.Code = 0)) = true then (decide (e4.Tx.Kind = 4)) else false) fun (y22 : Bool) => if y22 = true then (grd ((s2.length + ([e4.Tx] : List api_Tx).length) * 224 ≤ 140737488355328) <| some ((s2 ++ ([e4.Tx] : List api_Tx)))) else (some s2)) fun (y15 : (List api_Tx)) => some (.nx y15)) 0 a0 ([])) fun o5 => Lo.on o5 fun (s2 : (List api_Tx)) => some s2
set_option maxRecDepth 20000 in
set_option maxHeartbeats 1000000 in
theorem S_scan_Deals (v00 : Value) (a0 : List api_Event) (r : (List api_Tx)) (h : scan_Deals a0 = some r) :
    SpecF Try.prog 37 [v00] [] [rows 27 v00 (a0.map api_Event.cs)] (fun _ : Value => True) (fun z => z) (fun z M => lst 36 25 z (r.map api_Tx.cs) ::  M) (fun z M =>  M) := by
  refine .of func37 rfl ntmps37 rfl fun w0 D0 G0 => ?_
  unfold scan_Deals at h
  refine .seq ?_
  refine .reg rfl ?_
  refine .op0 (OpP.toV (P.asg .k)) rfl ?_
  refine .nil ?_
  refine .then ?_
  refine .seq ?_
  refine .reg rfl ?_
  refine .opp (P.asg .k) rfl ?_
  refine .nil ?_
  refine .then ?_
  refine .seq ?_
  refine .seq ?_
  refine .reg rfl ?_
  refine .opp (P.mov .t1) rfl ?_
  refine .op (V.lnr (n := a0.length) .g0 Mm.m0 map_len runUnderlying22) rfl ?_
  refine .opp (P.mov .k) rfl ?_
  refine .nil ?_
  refine .then ?_
  refine .block ?_
  refine .lnil 36 25 ?_
  obtain ⟨o5, ho6, h⟩ := bnd_eq h
  refine .lenq Mm.m0 fun hl12 => ?_
  rw [map_len] at hl12
  refine .loopR (γ := Value) (fun i1 (s2 : (List api_Tx)) z3 => [(8, N ((i1 : Int))), (7, N ((a0.length : Int))), (6, v00), (3, z3)]) (fun (s2 : (List api_Tx)) z3 => [lst 36 25 z3 (s2.map api_Tx.cs)]) (fun (s2 : (List api_Tx)) z3 => [rows 27 v00 (a0.map api_Event.cs)]) nilSl ho6 (.cons Mm.m0 (.cons Mm.m1 (.cons Mm.m2 (.cons Mm.m3 .nil)))) (.of (.cons .k0 .nil)) (.cons Mm.m0 .nil) (fun i1 s2 z3 hi13 hr9 => ?_)
  refine .seq ?_
  refine .reg rfl ?_
  refine .opp (P.bin (v := Bo (decide ((i1 : Int) < (a0.length : Nat)))) .g0 .g1 .lss) rfl ?_
  refine .nil ?_
  refine .then ?_
  refine .seq ?_
  refine .cond .t0 (fun c14 => ?_) (fun c14 => ?_)
  · obtain ⟨e4, hx11⟩ := get_of c14
    obtain ⟨ct10, hc7, hn8⟩ := loopR_at hx11 hr9
    refine .skip ?_
    refine .then ?_
    obtain ⟨y15, hj17, hc7⟩ := bnd_eq hc7
    refine .cutx (γ := Value) (E1 := fun z16 => [(3, z16), (8, N ((i1 : Int))), (7, N ((a0.length : Int))), (6, v00)]) (L1 := fun z16 => [lst 36 25 z16 (y15.map api_Tx.cs)]) (R1 := fun z16 => [rows 27 v00 (a0.map api_Event.cs)]) ?_ (fun z16 => ?_)
    · clear hc7
      refine .block ?_
      refine .seq ?_
      refine .reg rfl ?_
      refine .ixq Mm.m0 (map_get hx11) fun p18 q19 hq20 => ?_
      refine .opp (P.ixi (i := i1) .g0 rfl .g2 hq20 runUnderlying22 sizeOf38) rfl ?_
      refine .op (V.ldx0 (u := Ag (api_Event.cs e4)) .t0 hq20 Mm.m0 (map_get hx11) (.agg isAgg38 sizeOf38 rfl rfl)) rfl ?_
      refine .opx (X.alc (cs := (api_Event.cs ⟨0, 0, ⟨0, 0, 0, 0, ⟨0, 0, 0, 0⟩, ⟨0, ⟨#[]⟩, 0, 0, 0, 0, ⟨#[]⟩⟩, ⟨⟨0, 0, 0, 0⟩, 0⟩, ⟨0, 0, 0, 0⟩, ⟨#[]⟩⟩⟩)) zeroValue38 rfl) rfl fun b21 => ?_
      refine .opg (G.str .t1 .g0 .k0 (.mk (cs' := (api_Event.cs e4)) sizeOf38 rfl rfl rfl rfl)) rfl fun _ _ => ?_
      refine .nil ?_
      refine .then ?_
      obtain ⟨y22, hj24, hj17⟩ := thn_eq hj17
      refine .cutx (γ := Unit) (E1 := fun z23 => [(20, Bo y22), (5, pt b21 0), (8, N ((i1 : Int))), (7, N ((a0.length : Int))), (6, v00), (3, z3)]) (L1 := fun z23 => [blk b21 38 (api_Event.cs e4), lst 36 25 z3 (s2.map api_Tx.cs)]) (R1 := fun z23 => [rows 27 v00 (a0.map api_Event.cs)]) ?_ (fun z23 => ?_)
      · clear hj17
        refine .reg rfl ?_
        refine .opp (P.fa .g0 fa_38_1 rfl) rfl ?_
        refine .op (V.ld (v := N e4.Code) .t0 .k0 (.one isAgg30 rfl)) rfl ?_
        refine .opp (P.bin .t0 .k .eql) rfl ?_
        refine .opp (P.mov .t0) rfl ?_
        refine .split .k0 (fun c25 => ?_) (fun c25 => ?_)
        · rw [if_pos c25] at hj24
          refine .gyes rfl .g0 ?_
          refine .opp (P.fa .g1 fa_38_2 rfl) rfl ?_
          refine .gyes rfl .g1 ?_
          refine .opp (P.fa .t0 fa_36_2 rfl) rfl ?_
          refine .gyes rfl .g1 ?_
          refine .op (V.ld (v := N e4.Tx.Kind) .t0 .k0 (.one isAgg3 rfl)) rfl ?_
          refine .gyes rfl .g1 ?_
          refine .opp (P.bin .t0 .k .eql) rfl ?_
          refine .opp (P.pickT .t1 .t0) rfl ?_
          refine .nil ?_
          subst hj24
          exact .stj () (.cons Mm.m0 (.cons Mm.m1 (.cons Mm.m2 (.cons Mm.m3 (.cons Mm.m4 (.cons Mm.m5 .nil)))))) (.of (.cons .k0 (.cons .k0 .nil))) (.cons Mm.m0 .nil)
        · rw [if_neg (ne_true_of_eq_false c25)] at hj24
          refine .gno rfl .g0 rfl rfl ?_
          refine .gno rfl .g0 rfl rfl ?_
          refine .gno rfl .g0 rfl rfl ?_
          refine .gno rfl .g0 rfl rfl ?_
          refine .opp (P.pickF .t0 .k) rfl ?_
          refine .nil ?_
          subst hj24
          exact .stj () (.cons Mm.m0 (.cons Mm.m1 (.cons Mm.m2 (.cons Mm.m3 (.cons Mm.m4 (.cons Mm.m5 .nil)))))) (.of (.cons .k0 (.cons .k0 .nil))) (.cons Mm.m0 .nil)
      · clear hj24
        refine .cond .t0 (fun c26 => ?_) (fun c26 => ?_)
        · rw [if_pos c26] at hj17
          refine .reg rfl ?_
          refine .opp (P.mov .g4) rfl ?_
          refine .opp (P.fa .t1 fa_38_2 rfl) rfl ?_
          refine .op (V.ld (v := Ag (api_Tx.cs e4.Tx)) .t0 .k0 (.agg isAgg36 sizeOf36 rfl rfl)) rfl ?_
          refine .opg (G.bsl (cs := (api_Tx.cs e4.Tx)) .t0 runUnderlying80 sizeOf36 zeroValue36 rfl rfl rfl rfl rfl) rfl fun u27 _ => ?_
          obtain ⟨hb29, hj17⟩ := grd_eq hj17
          refine .opg (G.app (by_ := 224) .t1 .t0 .k2 (.inr (.inr ⟨_, Mm.m0⟩)) runUnderlying80 runUnderlying80 sizeOf36 typeInfo36 rfl rfl zeroValue36 rfl rfl (by simpa using hb29) rfl) rfl fun u28 _ => ?_
          refine .conseq .k0 (q := lst 36 25 u28 (((s2 ++ ([e4.Tx] : List api_Tx))).map api_Tx.cs)) (fun _ hh => by simpa [List.map_append] using hh) ?_
          refine .drop .k4 ?_
          refine .opp (P.asg .t0) rfl ?_
          refine .nil ?_
          refine .inn ?_
          cases hj17
          exact .stj u28 (.cons Mm.m0 (.cons Mm.m1 (.cons Mm.m2 (.cons Mm.m3 .nil)))) (.of (.cons .k0 .nil)) (.cons Mm.m0 .nil)
        · rw [if_neg (ne_true_of_eq_false c26)] at hj17
          refine .skip ?_
          refine .inn ?_
          cases hj17
          exact .stj z3 (.cons Mm.m4 (.cons Mm.m1 (.cons Mm.m2 (.cons Mm.m3 .nil)))) (.of (.cons .k1 .nil)) (.cons Mm.m0 .nil)
    · clear hj17
      refine .reg rfl ?_
      refine .opp (P.bin .g1 .k (.addc (inc_ok (lt_of_get hx11) hl12))) rfl ?_
      refine .drop .k2 ?_
      refine .opp (P.mov .t0) rfl ?_
      refine .nil ?_
      cases hc7
      exact .rdR y15 z16 hn8 (lt_of_get hx11) (.cons Mm.m0 (.cons Mm.m2 (.cons Mm.m3 (.cons Mm.m1 .nil)))) (.of (.cons .k0 .nil)) (.cons Mm.m0 .nil)
  · obtain rfl := loopR_end (le_of_not c14) hr9
    have h := dn_on h
    refine .exit ?_
    refine .thx ?_
    refine .thx ?_
    refine .inb ?_
    refine .then ?_
    refine .seq ?_
    refine .reg rfl ?_
    refine .opp (P.mov .t3) rfl ?_
    refine .opp (P.asg .t0) rfl ?_
    refine .nil ?_
    refine .then ?_
    refine .ret ?_
    cases h
    exact .finw z3 (.r1 rfl (.tmp .g0)) trivial (Ls.of (.cons .k0 .nil)) .nil
attribute [irreducible] scan_Deals
noncomputable def slices_insertionSortCmpFunc_i208_f158 (a0 : List deadline_Due) (a1 : Int) (a2 : Int) : Option (Unit) :=
  Option.bind (loopW (fun (s1 : Int) => if (decide (s1 < a2)) = true then (if (decide (s1 > a1)) = true then (Option.bind (at_ a0 s1) fun (x15 : deadline_Due) => Option.bind (at_ a0 (IntKind.i64.wrap (s1 - 1))) fun (x22 : deadline_Due) => none) else (some (.nx (IntKind.i64.wrap (s1 + 1))))) else (some (.br s1))) (IntKind.i64.wrap (a1 + 1))) fun o3 => Lo.on o3 fun (s1 : Int) => some ()
set_option maxRecDepth 20000 in
set_option maxHeartbeats 1000000 in
theorem S_slices_insertionSortCmpFunc_i208_f158 (v00 : Value) (a0 : List deadline_Due) (a1 : Int) (a2 : Int) (r : Unit) (h : slices_insertionSortCmpFunc_i208_f158 a0 a1 a2 = some r) :
    SpecF Try.prog 208 [v00, N a1, N a2, fnv 158 []] [] [rows 3 v00 (a0.map deadline_Due.cs)] (fun _ : Unit => True) (fun z => Tu []) (fun z M =>  M) (fun z M =>  M) := by
  refine .of func208 rfl ntmps208 rfl fun w0 D0 G0 => ?_
  unfold slices_insertionSortCmpFunc_i208_f158 at h
  refine .seq ?_
  refine .reg rfl ?_
  refine .opp (P.mov .g1) rfl ?_
  refine .opp (P.bin .t0 .k .add) rfl ?_
  refine .opp (P.asg .t0) rfl ?_
  refine .nil ?_
  refine .then ?_
  refine .block ?_
  obtain ⟨o3, ho4, h⟩ := bnd_eq h
  refine .loopW (γ := Unit) (fun (s1 : Int) z2 => [(8, N s1), (0, v00), (1, N a1), (2, N a2), (3, fnv 158 [])]) (fun (s1 : Int) z2 => []) (fun (s1 : Int) z2 => [rows 3 v00 (a0.map deadline_Due.cs)]) () ho4 (.cons Mm.m0 (.cons Mm.m1 (.cons Mm.m2 (.cons Mm.m3 (.cons Mm.m4 .nil))))) (.of .nil) (.cons Mm.m0 .nil) (fun n9 s1 z2 hr7 => ?_)
  obtain ⟨ct8, hc5, hn6⟩ := loopK_at hr7
  refine .seq ?_
  refine .seq ?_
  refine .reg rfl ?_
  refine .opp (P.mov .g0) rfl ?_
  refine .opp (P.mov .g4) rfl ?_
  refine .opp (P.bin .t1 .t0 .lss) rfl ?_
  refine .nil ?_
  refine .then ?_
  refine .cond .t0 (fun c10 => ?_) (fun c10 => ?_)
  · rw [if_pos c10] at hc5
    refine .skip ?_
    refine .then ?_
    refine .seq ?_
    refine .block ?_
    refine .seq ?_
    refine .reg rfl ?_
    refine .opp (P.mov .g0) rfl ?_
    refine .opp (P.asg .t0) rfl ?_
    refine .nil ?_
    refine .then ?_
    refine .block ?_
    refine .rounds 1 ?_
    refine .rd ?_
    refine .seq ?_
    refine .seq ?_
    refine .draw 17 (.on 0 .pu (.on 1 .pu (.on 2 .pu (.on 3 .pu (.on 4 .pu (.on 5 .pu (.on 6 .pu (.on 7 .pu (.on 9 .pu (.on 10 .pu (.on 11 .pu (.on 12 .pu (.on 8 .ld (.on 13 .ld (.on 14 .go (.on 15 .pu (.on 16 .pu .nl))))))))))))))))) follows_mixed (.thn (.thn (.thn (.inb (.inb (.thn (.thn (.inb .body)))))))) (by kernel_rfl) ?_
    refine .dpu rfl (.n rfl) (P.mov .g0) rfl rfl ?_
    refine .dpu rfl (.n rfl) (P.mov .g4) rfl rfl ?_
    refine .dpu rfl (.n rfl) (P.bin .t1 .t0 .gtr) rfl rfl ?_
    refine .dpu rfl (.n rfl) (P.mov .t0) rfl rfl ?_
    refine .split .k0 (fun c11 => ?_) (fun c11 => ?_)
    · rw [if_pos c11] at hc5
      refine .dpu rfl (.g rfl rfl .g0 rfl) (P.mov .g6) rfl rfl ?_
      refine .dpu rfl (.g rfl rfl .g1 rfl) (P.mov .g4) rfl rfl ?_
      refine .dpu rfl (.g rfl rfl .g2 rfl) (P.mov .g3) rfl rfl ?_
      obtain ⟨x15, hx16, hc5⟩ := bnd_eq hc5
      obtain ⟨i17, hi18, hx16⟩ := at_eq hx16
      have hi18_ : (s1).toNat = i17 := by rw [hi18]; rfl
      refine .ixq Mm.m0 (map_get hx16) fun p12 q13 hq14 => ?_
      refine .dpu rfl (.g rfl rfl .g3 rfl) (P.ixi (i := i17) .t0 hi18 .t0 hq14 runUnderlying99 sizeOf101) rfl rfl ?_
      refine .dpu rfl (.g rfl rfl .g2 rfl) (P.mov .g5) rfl rfl ?_
      refine .dpu rfl (.g rfl rfl .g3 rfl) (P.mov .g4) rfl rfl ?_
      refine .dpu rfl (.g rfl rfl .g4 rfl) (P.bin .t0 .k .sub) rfl rfl ?_
      obtain ⟨x22, hx23, hc5⟩ := bnd_eq hc5
      obtain ⟨i24, hi25, hx23⟩ := at_eq hx23
      have hi25_ : (IntKind.i64.wrap (s1 - 1)).toNat = i24 := by rw [hi25]; rfl
      refine .ixq Mm.m0 (map_get hx23) fun p19 q20 hq21 => ?_
      refine .dpu rfl (.g rfl rfl .g4 rfl) (P.ixi (i := i24) .t0 hi25 .t0 hq21 runUnderlying99 sizeOf101) rfl rfl ?_
      refine .dld rfl (.g rfl rfl .g3 rfl) (V.ldx0 (u := Ag (deadline_Due.cs x15)) .t1 hq14 Mm.m0 (map_get hx16) (.agg isAgg101 sizeOf101 rfl rfl)) (fun _ h => h) rfl rfl ?_
      refine .dld rfl (.g rfl rfl .g3 rfl) (V.ldx0 (u := Ag (deadline_Due.cs x22)) .t1 hq21 Mm.m0 (map_get hx23) (.agg isAgg101 sizeOf101 rfl rfl)) (fun _ h => h) rfl rfl ?_
      cases hc5
    · rw [if_neg (ne_true_of_eq_false c11)] at hc5
      refine .dsk rfl (.g rfl rfl .g0 rfl) rfl rfl ?_
      refine .dsk rfl (.g rfl rfl .g0 rfl) rfl rfl ?_
      refine .dsk rfl (.g rfl rfl .g0 rfl) rfl rfl ?_
      refine .dsk rfl (.g rfl rfl .g0 rfl) rfl rfl ?_
      refine .dsk rfl (.g rfl rfl .g0 rfl) rfl rfl ?_
      refine .dsk rfl (.g rfl rfl .g0 rfl) rfl rfl ?_
      refine .dsk rfl (.g rfl rfl .g0 rfl) rfl rfl ?_
      refine .dsk rfl (.g rfl rfl .g0 rfl) rfl rfl ?_
      refine .dskl rfl (.g rfl rfl .g0 rfl) (fun _ h => h) rfl rfl ?_
      refine .dskl rfl (.g rfl rfl .g0 rfl) (fun _ h => h) rfl rfl ?_
      refine .dskg rfl (.g rfl rfl .g0 rfl) (.inr fun _ h => h) rfl rfl ?_
      refine .dsk rfl (.g rfl rfl .g0 rfl) rfl rfl ?_
      refine .dpu rfl (.n rfl) (P.pickF .t0 .k) rfl rfl ?_
      refine .dnil ?_
      refine .then ?_
      refine .condF .t0 ?_
      refine .exit ?_
      refine .thx ?_
      refine .thx ?_
      refine .inb ?_
      refine .inn ?_
      refine .then ?_
      refine .reg rfl ?_
      refine .opp (P.mov .g1) rfl ?_
      refine .opp (P.bin .t0 .k .add) rfl ?_
      refine .drop .k2 ?_
      refine .opp (P.asg .t0) rfl ?_
      refine .nil ?_
      cases hc5
      obtain ⟨m26, hm27, hn6⟩ := hn6
      exact .rdW (IntKind.i64.wrap (s1 + 1)) () hm27 hn6 (.cons Mm.m0 (.cons Mm.m2 (.cons Mm.m3 (.cons Mm.m4 (.cons Mm.m5 .nil))))) (.of .nil) (.cons Mm.m0 .nil)
  · rw [if_neg (ne_true_of_eq_false c10)] at hc5
    refine .exit ?_
    refine .thx ?_
    cases hc5
    refine .told (γ := Unit) h hn6 (fun (s1 : Int) _ => [(8, N s1), (0, v00), (1, N a1), (2, N a2), (3, fnv 158 [])]) (fun (s1 : Int) _ => []) (fun (s1 : Int) _ => [rows 3 v00 (a0.map deadline_Due.cs)]) () (.cons Mm.m0 (.cons Mm.m1 (.cons Mm.m2 (.cons Mm.m3 (.cons Mm.m4 .nil))))) (.of .nil) (.cons Mm.m0 .nil) (fun s1 _ h' => ?_)
    replace h := h'
    refine .thx ?_
    refine .inb ?_
    cases h
    exact .finwn () (.r0 rfl) trivial (Ls.of .nil) .nil
attribute [irreducible] slices_insertionSortCmpFunc_i208_f158
noncomputable def slices_stableCmpFunc_i186_f158 (a0 : List deadline_Due) (a1 : Int) : Option (Unit) :=
  Option.bind (loopW (fun (s1 : Int × Int) => if (decide (s1.1 ≤ a1)) = true then (Option.bind (slices_insertionSortCmpFunc_i208_f158 a0 s1.2 s1.1) fun r11 => some (.nx ((IntKind.i64.wrap (s1.1 + 20), s1.1)))) else (some (.br (s1.1, s1.2)))) (20, 0)) fun o3 => Lo.on o3 fun (s1 : Int × Int) => Option.bind (slices_insertionSortCmpFunc_i208_f158 a0 s1.2 a1) fun r15 => Option.bind (loopW (fun (s17 : Int) => if (decide (s17 < a1)) = true then (if (decide ((IntKind.i64.wrap (2 * s17)) ≤ a1)) = true then none else (if (decide ((IntKind.i64.wrap (0 + s17)) < a1)) = true then none else (some (.nx (IntKind.i64.wrap (s17 * 2)))))) else (some (.br s17))) 20) fun o19 => Lo.on o19 fun (s17 : Int) => some ()
set_option maxRecDepth 20000 in
set_option maxHeartbeats 1000000 in
theorem S_slices_stableCmpFunc_i186_f158 (v00 : Value) (a0 : List deadline_Due) (a1 : Int) (r : Unit) (h : slices_stableCmpFunc_i186_f158 a0 a1 = some r) :
    SpecF Try.prog 186 [v00, N a1, fnv 158 []] [] [rows 3 v00 (a0.map deadline_Due.cs)] (fun _ : Unit => True) (fun z => Tu []) (fun z M =>  M) (fun z M =>  M) := by
  refine .of func186 rfl ntmps186 rfl fun w0 D0 G0 => ?_
  unfold slices_stableCmpFunc_i186_f158 at h
  refine .seq ?_
  refine .reg rfl ?_
  refine .opp (P.asg .k) rfl ?_
  refine .nil ?_
  refine .then ?_
  refine .seq ?_
  refine .reg rfl ?_
  refine .opp (P.mov .g0) rfl ?_
  refine .opp (P.asg .k) rfl ?_
  refine .opp (P.asg .t1) rfl ?_
  refine .nil ?_
  refine .then ?_
  refine .seq ?_
  refine .block ?_
  obtain ⟨o3, ho4, h⟩ := bnd_eq h
  refine .loopW (γ := Unit) (fun (s1 : Int × Int) z2 => [(8, N s1.1), (7, N s1.2), (6, N 20), (0, v00), (1, N a1), (2, fnv 158 [])]) (fun (s1 : Int × Int) z2 => []) (fun (s1 : Int × Int) z2 => [rows 3 v00 (a0.map deadline_Due.cs)]) () ho4 (.cons Mm.m0 (.cons Mm.m1 (.cons Mm.m2 (.cons Mm.m3 (.cons Mm.m4 (.cons Mm.m5 .nil)))))) (.of .nil) (.cons Mm.m0 .nil) (fun n9 s1 z2 hr7 => ?_)
  obtain ⟨ct8, hc5, hn6⟩ := loopK_at hr7
  refine .seq ?_
  refine .seq ?_
  refine .reg rfl ?_
  refine .opp (P.mov .g0) rfl ?_
  refine .opp (P.mov .g5) rfl ?_
  refine .opp (P.bin .t1 .t0 .leq) rfl ?_
  refine .nil ?_
  refine .then ?_
  refine .cond .t0 (fun c10 => ?_) (fun c10 => ?_)
  · rw [if_pos c10] at hc5
    refine .skip ?_
    refine .then ?_
    refine .block ?_
    refine .seq ?_
    refine .reg rfl ?_
    refine .opp (P.mov .g3) rfl ?_
    refine .opp (P.mov .t2) rfl ?_
    refine .opp (P.mov .g2) rfl ?_
    refine .opp (P.mov .g7) rfl ?_
    obtain ⟨r11, hr12, hc5⟩ := bnd_eq hc5
    refine .opg (G.call call208 (.cons .t3 (.cons .t2 (.cons .t1 (.cons .t0 .nil)))) (S_slices_insertionSortCmpFunc_i208_f158 v00 a0 s1.2 s1.1 r11 hr12) .nil (.cons Mm.m0 .nil) (fun _ _ => rfl) (fun _ _ => rfl) rfl) rfl fun _ _ => ?_
    refine .drop .k0 ?_
    refine .nil ?_
    refine .then ?_
    refine .seq ?_
    refine .reg rfl ?_
    refine .opp (P.mov .g0) rfl ?_
    refine .opp (P.asg .t0) rfl ?_
    refine .nil ?_
    refine .then ?_
    refine .reg rfl ?_
    refine .opp (P.mov .g1) rfl ?_
    refine .opp (P.mov .g3) rfl ?_
    refine .opp (P.bin .t1 .t0 .add) rfl ?_
    refine .drop .k2 ?_
    refine .opp (P.asg .t0) rfl ?_
    refine .nil ?_
    refine .inn ?_
    cases hc5
    obtain ⟨m13, hm14, hn6⟩ := hn6
    exact .rdW ((IntKind.i64.wrap (s1.1 + 20), s1.1)) () hm14 hn6 (.cons Mm.m0 (.cons Mm.m1 (.cons Mm.m2 (.cons Mm.m3 (.cons Mm.m4 (.cons Mm.m5 .nil)))))) (.of .nil) (.cons Mm.m0 .nil)
  · rw [if_neg (ne_true_of_eq_false c10)] at hc5
    refine .exit ?_
    refine .thx ?_
    cases hc5
    refine .told (γ := Unit) h hn6 (fun (s1 : Int × Int) _ => [(8, N s1.1), (7, N s1.2), (6, N 20), (0, v00), (1, N a1), (2, fnv 158 [])]) (fun (s1 : Int × Int) _ => []) (fun (s1 : Int × Int) _ => [rows 3 v00 (a0.map deadline_Due.cs)]) () (.cons Mm.m0 (.cons Mm.m1 (.cons Mm.m2 (.cons Mm.m3 (.cons Mm.m4 (.cons Mm.m5 .nil)))))) (.of .nil) (.cons Mm.m0 .nil) (fun s1 _ h' => ?_)
    replace h := h'
    refine .thx ?_
    refine .inb ?_
    refine .then ?_
    refine .seq ?_
    refine .reg rfl ?_
    refine .opp (P.mov .g3) rfl ?_
    refine .opp (P.mov .t2) rfl ?_
    refine .opp (P.mov .g5) rfl ?_
    refine .opp (P.mov .g7) rfl ?_
    obtain ⟨r15, hr16, h⟩ := bnd_eq h
    refine .opg (G.call call208 (.cons .t3 (.cons .t2 (.cons .t1 (.cons .t0 .nil)))) (S_slices_insertionSortCmpFunc_i208_f158 v00 a0 s1.2 a1 r15 hr16) .nil (.cons Mm.m0 .nil) (fun _ _ => rfl) (fun _ _ => rfl) rfl) rfl fun _ _ => ?_
    refine .drop .k0 ?_
    refine .nil ?_
    refine .then ?_
    refine .block ?_
    obtain ⟨o19, ho20, h⟩ := bnd_eq h
    refine .loopW (γ := Unit) (fun (s17 : Int) z18 => [(6, N s17), (0, v00), (1, N a1), (2, fnv 158 [])]) (fun (s17 : Int) z18 => []) (fun (s17 : Int) z18 => [rows 3 v00 (a0.map deadline_Due.cs)]) () ho20 (.cons Mm.m1 (.cons Mm.m2 (.cons Mm.m3 (.cons Mm.m4 .nil)))) (.of .nil) (.cons Mm.m0 .nil) (fun n25 s17 z18 hr23 => ?_)
    obtain ⟨ct24, hc21, hn22⟩ := loopK_at hr23
    refine .seq ?_
    refine .seq ?_
    refine .reg rfl ?_
    refine .opp (P.mov .g0) rfl ?_
    refine .opp (P.mov .g3) rfl ?_
    refine .opp (P.bin .t1 .t0 .lss) rfl ?_
    refine .nil ?_
    refine .then ?_
    refine .cond .t0 (fun c26 => ?_) (fun c26 => ?_)
    · rw [if_pos c26] at hc21
      refine .skip ?_
      refine .then ?_
      refine .block ?_
      refine .seq ?_
      refine .reg rfl ?_
      refine .opp (P.mov .g0) rfl ?_
      refine .opp (P.bin .k .t0 .mul) rfl ?_
      refine .opp (P.asg .k) rfl ?_
      refine .opp (P.asg .t1) rfl ?_
      refine .nil ?_
      refine .then ?_
      refine .seq ?_
      refine .block ?_
      refine .rounds 1 ?_
      refine .rd ?_
      refine .seq ?_
      refine .seq ?_
      refine .reg rfl ?_
      refine .opp (P.mov .g0) rfl ?_
      refine .opp (P.mov .g5) rfl ?_
      refine .opp (P.bin .t1 .t0 .leq) rfl ?_
      refine .nil ?_
      refine .then ?_
      refine .cond .t0 (fun c27 => ?_) (fun c27 => ?_)
      · rw [if_pos c27] at hc21
        refine .skip ?_
        refine .then ?_
        refine .block ?_
        refine .seq ?_
        refine .reg rfl ?_
        refine .opp (P.mov .g3) rfl ?_
        refine .opp (P.mov .g2) rfl ?_
        refine .opp (P.mov .t3) rfl ?_
        refine .opp (P.mov .g4) rfl ?_
        refine .opp (P.bin .t1 .t0 .add) rfl ?_
        refine .opp (P.mov .g3) rfl ?_
        refine .opp (P.mov .g8) rfl ?_
        cases hc21
      · rw [if_neg (ne_true_of_eq_false c27)] at hc21
        refine .exit ?_
        refine .thx ?_
        refine .thx ?_
        refine .inb ?_
        refine .then ?_
        refine .seq ?_
        refine .seq ?_
        refine .reg rfl ?_
        refine .opp (P.mov .g1) rfl ?_
        refine .opp (P.mov .g3) rfl ?_
        refine .opp (P.bin .t1 .t0 .add) rfl ?_
        refine .opp (P.asg .t0) rfl ?_
        refine .nil ?_
        refine .then ?_
        refine .seq ?_
        refine .reg rfl ?_
        refine .opp (P.mov .g0) rfl ?_
        refine .opp (P.mov .g6) rfl ?_
        refine .opp (P.bin .t1 .t0 .lss) rfl ?_
        refine .nil ?_
        refine .then ?_
        refine .cond .t0 (fun c28 => ?_) (fun c28 => ?_)
        · rw [if_pos c28] at hc21
          refine .reg rfl ?_
          refine .opp (P.mov .g4) rfl ?_
          refine .opp (P.mov .t3) rfl ?_
          refine .opp (P.mov .t2) rfl ?_
          refine .opp (P.mov .g6) rfl ?_
          refine .opp (P.mov .g8) rfl ?_
          cases hc21
        · rw [if_neg (ne_true_of_eq_false c28)] at hc21
          refine .skip ?_
          refine .then ?_
          refine .reg rfl ?_
          refine .opp (P.mov .g3) rfl ?_
          refine .opp (P.bin .t0 .k .mul) rfl ?_
          refine .drop .k4 ?_
          refine .opp (P.asg .t0) rfl ?_
          refine .nil ?_
          refine .inn ?_
          cases hc21
          obtain ⟨m29, hm30, hn22⟩ := hn22
          exact .rdW (IntKind.i64.wrap (s17 * 2)) () hm30 hn22 (.cons Mm.m0 (.cons Mm.m4 (.cons Mm.m5 (.cons Mm.m6 .nil)))) (.of .nil) (.cons Mm.m0 .nil)
    · rw [if_neg (ne_true_of_eq_false c26)] at hc21
      refine .exit ?_
      refine .thx ?_
      cases hc21
      refine .told (γ := Unit) h hn22 (fun (s17 : Int) _ => [(6, N s17), (0, v00), (1, N a1), (2, fnv 158 [])]) (fun (s17 : Int) _ => []) (fun (s17 : Int) _ => [rows 3 v00 (a0.map deadline_Due.cs)]) () (.cons Mm.m0 (.cons Mm.m1 (.cons Mm.m2 (.cons Mm.m3 .nil)))) (.of .nil) (.cons Mm.m0 .nil) (fun s17 _ h' => ?_)
      replace h := h'
      refine .thx ?_
      refine .inb ?_
      cases h
      exact .finwn () (.r0 rfl) trivial (Ls.of .nil) .nil
attribute [irreducible] slices_stableCmpFunc_i186_f158
noncomputable def slices_SortStableFunc_i157_f158 (a0 : List deadline_Due) : Option (Unit) :=
  Option.bind (slices_stableCmpFunc_i186_f158 a0 ((a0.length : Int))) fun r1 => some ()
set_option maxRecDepth 20000 in
set_option maxHeartbeats 1000000 in
theorem S_slices_SortStableFunc_i157_f158 (v00 : Value) (a0 : List deadline_Due) (r : Unit) (h : slices_SortStableFunc_i157_f158 a0 = some r) :
    SpecF Try.prog 157 [v00, fnv 158 []] [] [rows 3 v00 (a0.map deadline_Due.cs)] (fun _ : Unit => True) (fun z => Tu []) (fun z M =>  M) (fun z M =>  M) := by
  refine .of func157 rfl ntmps157 rfl fun w0 D0 G0 => ?_
  unfold slices_SortStableFunc_i157_f158 at h
  refine .reg rfl ?_
  refine .opp (P.mov .g0) rfl ?_
  refine .opp (P.mov .t1) rfl ?_
  refine .op (V.lnr (n := a0.length) .t0 Mm.m0 map_len runUnderlying99) rfl ?_
  refine .opp (P.mov .t2) rfl ?_
  obtain ⟨r1, hr2, h⟩ := bnd_eq h
  refine .opg (G.call call186 (.cons .t2 (.cons .t1 (.cons .t0 .nil))) (S_slices_stableCmpFunc_i186_f158 v00 a0 ((a0.length : Int)) r1 hr2) .nil (.cons Mm.m0 .nil) (fun _ _ => rfl) (fun _ _ => rfl) rfl) rfl fun _ _ => ?_
  refine .drop .k0 ?_
  refine .nil ?_
  cases h
  exact .finwn () (.r0 rfl) trivial (Ls.of .nil) .nil
attribute [irreducible] slices_SortStableFunc_i157_f158
noncomputable def deadline_Of (a0 : escrow_State) (a1 : List api_Event) : Option ((List deadline_Due)) :=
  Option.bind (scan_Deals a1) fun r2 => if (decide (0 < ((r2.length : Int)))) = true then (Option.bind (at_ r2 0) fun (x9 : api_Tx) => none) else (Option.bind (slices_SortStableFunc_i157_f158 ([] : List deadline_Due)) fun r14 => some ([] : List deadline_Due))
set_option maxRecDepth 20000 in
set_option maxHeartbeats 1000000 in
theorem S_deadline_Of (a0 : escrow_State) (z00a : Value) (v01 : Value) (a1 : List api_Event) (r : (List deadline_Due)) (h : deadline_Of a0 a1 = some r) :
    SpecF Try.prog 107 [Ag (escrow_State.cs a0 z00a), v01] [] [rows 3 z00a (a0.Locks.map escrow_Lock.cs), rows 27 v01 (a1.map api_Event.cs)] (fun _ : Value => True) (fun z => z) (fun z M => lst 101 3 z (r.map deadline_Due.cs) ::  M) (fun z M =>  M) := by
  refine .of func107 rfl ntmps107 rfl fun w0 D0 G0 => ?_
  unfold deadline_Of at h
  refine .seq ?_
  refine .reg rfl ?_
  refine .opx (X.box (cs := (escrow_State.cs a0 z00a)) .t0 rfl) rfl fun b1 => ?_
  refine .op0 (OpP.toV (P.asg .k)) rfl ?_
  refine .nil ?_
  refine .then ?_
  refine .seq ?_
  refine .reg rfl ?_
  refine .opp (P.asg .k) rfl ?_
  refine .nil ?_
  refine .then ?_
  refine .seq ?_
  refine .seq ?_
  refine .reg rfl ?_
  refine .opp (P.mov .t2) rfl ?_
  obtain ⟨r2, hr3, h⟩ := bnd_eq h
  refine .opg (G.call call37 (.cons .t0 .nil) (S_scan_Deals v01 a1 r2 hr3) .nil (.cons Mm.m1 .nil) (fun _ _ => rfl) (fun _ _ => rfl) rfl) rfl fun u4 _ => ?_
  refine .op (V.lnl (n := r2.length) .g0 .k0 map_len runUnderlying80) rfl ?_
  refine .opp (P.mov .k) rfl ?_
  refine .nil ?_
  refine .then ?_
  refine .block ?_
  refine .rounds 1 ?_
  refine .rd ?_
  refine .seq ?_
  refine .reg rfl ?_
  refine .opp (P.bin .g0 .g1 .lss) rfl ?_
  refine .nil ?_
  refine .then ?_
  refine .seq ?_
  refine .cond .t0 (fun c5 => ?_) (fun c5 => ?_)
  · rw [if_pos c5] at h
    refine .skip ?_
    refine .then ?_
    refine .seq ?_
    refine .block ?_
    refine .seq ?_
    refine .reg rfl ?_
    obtain ⟨x9, hx10, h⟩ := bnd_eq h
    obtain ⟨i11, hi12, hx10⟩ := at_eq hx10
    have hi12_ : (0 : Int).toNat = i11 := by rw [hi12]; rfl
    refine .ixql .k0 (map_get hx10) fun p6 q7 hq8 => ?_
    refine .opp (P.ixi (i := i11) .g0 hi12 .g2 hq8 runUnderlying80 sizeOf36) rfl ?_
    refine .op (V.ldxl0 (u := Ag (api_Tx.cs x9)) .t0 hq8 .k0 (map_get hx10) (.agg isAgg36 sizeOf36 rfl rfl)) rfl ?_
    refine .opx (X.alc (cs := (api_Tx.cs ⟨0, 0, 0, 0, ⟨0, 0, 0, 0⟩, ⟨0, ⟨#[]⟩, 0, 0, 0, 0, ⟨#[]⟩⟩, ⟨⟨0, 0, 0, 0⟩, 0⟩, ⟨0, 0, 0, 0⟩, ⟨#[]⟩⟩)) zeroValue36 rfl) rfl fun b13 => ?_
    refine .opg (G.str .t1 .g0 .k0 (.mk (cs' := (api_Tx.cs x9)) sizeOf36 rfl rfl rfl rfl)) rfl fun _ _ => ?_
    refine .nil ?_
    refine .then ?_
    refine .seq ?_
    refine .reg rfl ?_
    refine .opp (P.fa .g0 fa_36_5 rfl) rfl ?_
    refine .op (V.ld (v := Ag (api_Inv.cs x9.Inv)) .t0 .k0 (.agg isAgg32 sizeOf32 rfl rfl)) rfl ?_
    cases h
  · rw [if_neg (ne_true_of_eq_false c5)] at h
    refine .exit ?_
    refine .thx ?_
    refine .thx ?_
    refine .inb ?_
    refine .then ?_
    refine .seq ?_
    refine .reg rfl ?_
    refine .opp (P.mov .g3) rfl ?_
    refine .rnil0 3 ?_
    obtain ⟨r14, hr15, h⟩ := bnd_eq h
    refine .opg (G.call call157 (.cons .t0 (.cons .f .nil)) (S_slices_SortStableFunc_i157_f158 nilSl ([] : List deadline_Due) r14 hr15) .nil (.cons Mm.m0 .nil) (fun _ _ => rfl) (fun _ _ => rfl) rfl) rfl fun _ _ => ?_
    refine .drop .k0 ?_
    refine .nil ?_
    refine .then ?_
    refine .seq ?_
    refine .reg rfl ?_
    refine .opp (P.mov .t3) rfl ?_
    refine .opp (P.asg .t0) rfl ?_
    refine .nil ?_
    refine .then ?_
    refine .ret ?_
    cases h
    refine .lnil 101 3 ?_
    exact .finw nilSl (.r1 rfl (.tmp .g0)) trivial (Ls.of (.cons .k0 .nil)) .nil
attribute [irreducible] deadline_Of
noncomputable def narrowslaw39_alive  : Option (Bool) :=
  Option.bind (deadline_Next ([⟨⟨#[]⟩, 0, 0⟩, ⟨⟨#[]⟩, 0, 3⟩] : List deadline_Due)) fun r2 => Option.bind (if r2.2 = true then (if (decide (r2.1.Left = 3)) = true then (Option.bind (deadline_Of ((escrow_Genesis 0 5)) ([] : List api_Event)) fun r11 => if (decide (((r11.length : Int)) = 0)) = true then (Option.bind (deadline_Within ([⟨⟨#[]⟩, 0, 3⟩] : List deadline_Due) 3) fun r16 => some (decide (r16 = 1))) else (some false)) else (some false)) else (some false)) fun (y5 : Bool) => some y5
set_option maxRecDepth 20000 in
set_option maxHeartbeats 1000000 in
theorem S_narrowslaw39_alive  (r : Bool) (h : narrowslaw39_alive  = some r) :
    SpecF Try.prog 49 [] [] [] (fun _ : Unit => True) (fun z => Bo r) (fun z M =>  M) (fun z M =>  M) := by
  refine .of func49 rfl ntmps49 rfl fun w0 D0 G0 => ?_
  unfold narrowslaw39_alive at h
  refine .seq ?_
  refine .reg rfl ?_
  refine .op0 (OpP.toV (P.asg .k)) rfl ?_
  refine .nil ?_
  refine .then ?_
  refine .seq ?_
  refine .reg rfl ?_
  refine .opp (P.bld (v := Ag (deadline_Due.cs ⟨⟨#[]⟩, 0, 0⟩)) (.cons .k .nil) (bld_run zeroValue101 runUnderlying101 pl_101 (by kernel_rfl))) rfl ?_
  refine .opp (P.bld (v := Ag (deadline_Due.cs ⟨⟨#[]⟩, 0, 3⟩)) (.cons .k .nil) (bld_run zeroValue101 runUnderlying101 pl_101 (by kernel_rfl))) rfl ?_
  refine .opg (G.bsln (xs := [(deadline_Due.cs ⟨⟨#[]⟩, 0, 0⟩), (deadline_Due.cs ⟨⟨#[]⟩, 0, 3⟩)]) (.cons .t1 (.cons .t0 .nil)) runUnderlying99 sizeOf101 zeroValue101 (by kernel_rfl) rfl rfl rfl rfl rfl) rfl fun u1 _ => ?_
  refine .frz .k0 ?_
  obtain ⟨r2, hr3, h⟩ := bnd_eq h
  refine .opg (G.call call50 (.cons .t0 .nil) (S_deadline_Next u1 ([⟨⟨#[]⟩, 0, 0⟩, ⟨⟨#[]⟩, 0, 3⟩] : List deadline_Due) r2 hr3) .nil (.cons Mm.m0 .nil) (fun _ _ => rfl) (fun _ _ => rfl) rfl) rfl fun _ _ => ?_
  refine .opp (P.mov .t0) rfl ?_
  refine .opp (P.ext (v := Ag (deadline_Due.cs r2.1)) .g0 rfl) rfl ?_
  refine .opp (P.ext (v := Bo r2.2) .t1 rfl) rfl ?_
  refine .opx (X.alc (cs := (deadline_Due.cs ⟨⟨#[]⟩, 0, 0⟩)) zeroValue101 rfl) rfl fun b4 => ?_
  refine .opg (G.str .t2 .g0 .k0 (.mk (cs' := (deadline_Due.cs r2.1)) sizeOf101 rfl rfl rfl rfl)) rfl fun _ _ => ?_
  refine .opp (P.asg .t1) rfl ?_
  refine .nil ?_
  refine .then ?_
  obtain ⟨y5, hj7, h⟩ := bnd_eq h
  refine .cutx (γ := Unit) (E1 := fun z6 => [(0, Bo y5)]) (L1 := fun z6 => []) (R1 := fun z6 => []) ?_ (fun z6 => ?_)
  · clear h
    refine .reg rfl ?_
    refine .opp (P.mov .t0) rfl ?_
    refine .opp (P.mov .t0) rfl ?_
    refine .split .k0 (fun c8 => ?_) (fun c8 => ?_)
    · rw [if_pos c8] at hj7
      refine .gyes rfl .g0 ?_
      refine .opp (P.fa .t1 fa_101_2 rfl) rfl ?_
      refine .gyes rfl .g1 ?_
      refine .op (V.ld (v := N r2.1.Left) .t0 .k0 (.one isAgg3 rfl)) rfl ?_
      refine .gyes rfl .g1 ?_
      refine .opp (P.bin .t0 .k .eql) rfl ?_
      refine .opp (P.pickT .t1 .t0) rfl ?_
      refine .opp (P.mov .t0) rfl ?_
      refine .split .k0 (fun c9 => ?_) (fun c9 => ?_)
      · rw [if_pos c9] at hj7
        refine .gyes rfl .g0 ?_
        refine .opg (G.call call54 (.cons .k (.cons .k .nil)) (S_escrow_Genesis 0 5 _ rfl) .nil .nil (fun _ _ => rfl) (fun _ _ => rfl) rfl) rfl fun u10 _ => ?_
        refine .gyes rfl .g1 ?_
        refine .rnil0 27 ?_
        obtain ⟨r11, hr12, hj7⟩ := bnd_eq hj7
        refine .opg (G.call call107 (.cons .t0 (.cons .k .nil)) (S_deadline_Of ((escrow_Genesis 0 5)) u10 nilSl ([] : List api_Event) r11 hr12) .nil (.cons Mm.m1 (.cons Mm.m0 .nil)) (fun _ _ => rfl) (fun _ _ => rfl) rfl) rfl fun u13 _ => ?_
        refine .gyes rfl .g1 ?_
        refine .op (V.lnl (n := r11.length) .t0 .k0 map_len runUnderlying99) rfl ?_
        refine .gyes rfl .g1 ?_
        refine .opp (P.bin .t0 .k .eql) rfl ?_
        refine .opp (P.pickT .t1 .t0) rfl ?_
        refine .opp (P.mov .t0) rfl ?_
        refine .split .k0 (fun c14 => ?_) (fun c14 => ?_)
        · rw [if_pos c14] at hj7
          refine .gyes rfl .g0 ?_
          refine .opp (P.bld (v := Ag (deadline_Due.cs ⟨⟨#[]⟩, 0, 3⟩)) (.cons .k .nil) (bld_run zeroValue101 runUnderlying101 pl_101 (by kernel_rfl))) rfl ?_
          refine .gyes rfl .g1 ?_
          refine .opg (G.bsl (cs := (deadline_Due.cs ⟨⟨#[]⟩, 0, 3⟩)) .t0 runUnderlying99 sizeOf101 zeroValue101 rfl rfl rfl rfl rfl) rfl fun u15 _ => ?_
          refine .gyes rfl .g1 ?_
          refine .frz .k0 ?_
          obtain ⟨r16, hr17, hj7⟩ := bnd_eq hj7
          refine .opg (G.call call52 (.cons .t0 (.cons .k .nil)) (S_deadline_Within u15 ([⟨⟨#[]⟩, 0, 3⟩] : List deadline_Due) 3 r16 hr17) .nil (.cons Mm.m0 .nil) (fun _ _ => rfl) (fun _ _ => rfl) rfl) rfl fun _ _ => ?_
          refine .gyes rfl .g1 ?_
          refine .opp (P.bin .t0 .k .eql) rfl ?_
          refine .opp (P.pickT .t1 .t0) rfl ?_
          refine .opp (P.asg .t0) rfl ?_
          refine .nil ?_
          cases hj7
          exact .stj () (.cons Mm.m0 .nil) (.of .nil) .nil
        · rw [if_neg (ne_true_of_eq_false c14)] at hj7
          refine .gno rfl .g0 rfl rfl ?_
          refine .gno rfl .g0 rfl rfl ?_
          refine .gno rfl .g0 rfl rfl ?_
          refine .gno rfl .g0 rfl rfl ?_
          refine .opp (P.pickF .t0 .k) rfl ?_
          refine .opp (P.asg .t0) rfl ?_
          refine .nil ?_
          cases hj7
          exact .stj () (.cons Mm.m0 .nil) (.of .nil) .nil
      · rw [if_neg (ne_true_of_eq_false c9)] at hj7
        refine .gno rfl .g0 rfl rfl ?_
        refine .gno rfl .g0 rfl rfl ?_
        refine .gno rfl .g0 rfl rfl ?_
        refine .gno rfl .g0 rfl rfl ?_
        refine .opp (P.pickF .t0 .k) rfl ?_
        refine .opp (P.mov .t0) rfl ?_
        refine .gno rfl .g0 rfl rfl ?_
        refine .gno rfl .g0 rfl rfl ?_
        refine .gno rfl .g0 rfl rfl ?_
        refine .gno rfl .g0 rfl rfl ?_
        refine .opp (P.pickF .t0 .k) rfl ?_
        refine .opp (P.asg .t0) rfl ?_
        refine .nil ?_
        cases hj7
        exact .stj () (.cons Mm.m0 .nil) (.of .nil) .nil
    · rw [if_neg (ne_true_of_eq_false c8)] at hj7
      refine .gno rfl .g0 rfl rfl ?_
      refine .gno rfl .g0 rfl rfl ?_
      refine .gno rfl .g0 rfl rfl ?_
      refine .opp (P.pickF .t0 .k) rfl ?_
      refine .opp (P.mov .t0) rfl ?_
      refine .gno rfl .g0 rfl rfl ?_
      refine .gno rfl .g0 rfl rfl ?_
      refine .gno rfl .g0 rfl rfl ?_
      refine .gno rfl .g0 rfl rfl ?_
      refine .opp (P.pickF .t0 .k) rfl ?_
      refine .opp (P.mov .t0) rfl ?_
      refine .gno rfl .g0 rfl rfl ?_
      refine .gno rfl .g0 rfl rfl ?_
      refine .gno rfl .g0 rfl rfl ?_
      refine .gno rfl .g0 rfl rfl ?_
      refine .opp (P.pickF .t0 .k) rfl ?_
      refine .opp (P.asg .t0) rfl ?_
      refine .nil ?_
      cases hj7
      exact .stj () (.cons Mm.m0 .nil) (.of .nil) .nil
  · clear hj7
    refine .ret ?_
    cases h
    exact .finw () (.r1 rfl (.tmp .g0)) trivial (Ls.of .nil) .nil
attribute [irreducible] narrowslaw39_alive
noncomputable def narrowslaw39_DeadlineParts (a0 : List deadline_Due) (a1 : Int) : Option (Bool) :=
  Option.bind (narrowslaw39_alive) fun r1 => if (!r1) = true then (some false) else (Option.bind (loopW (fun (s5 : Int × Int × Bool × deadline_Due × (List deadline_Due)) => if (decide (s5.1 < ((a0.length : Int)))) = true then (Option.bind (Option.bind (at_ a0 s5.1) fun (x21 : deadline_Due) => if (decide (x21.Left ≤ 0)) = true then (Option.bind (at_ a0 s5.1) fun (x29 : deadline_Due) => grd ((s5.2.2.2.2.length + ([x29] : List deadline_Due).length) * 32 ≤ 140737488355328) <| some ((s5.2.1, s5.2.2.1, s5.2.2.2.1, (s5.2.2.2.2 ++ ([x29] : List deadline_Due))))) else (Option.bind (if (!s5.2.2.1) = true then (Option.bind (at_ a0 s5.1) fun (x43 : deadline_Due) => some (true, x43)) else (some (s5.2.2.1, s5.2.2.2.1))) fun (y36 : Bool × deadline_Due) => Option.bind (at_ a0 s5.1) fun (x50 : deadline_Due) => if (decide (x50.Left ≤ a1)) = true then (some ((IntKind.i64.wrap (s5.2.1 + 1), y36.1, y36.2, s5.2.2.2.2))) else (some (s5.2.1, y36.1, y36.2, s5.2.2.2.2)))) fun (y15 : Int × Bool × deadline_Due × (List deadline_Due)) => some (.nx ((IntKind.i64.wrap (s5.1 + 1), y15.1, y15.2.1, y15.2.2.1, y15.2.2.2)))) else (some (.br (s5.1, s5.2.1, s5.2.2.1, s5.2.2.2.1, s5.2.2.2.2)))) (0, 0, false, ⟨⟨#[]⟩, 0, 0⟩, [])) fun o7 => Lo.on o7 fun (s5 : Int × Int × Bool × deadline_Due × (List deadline_Due)) => Option.bind (deadline_Next a0) fun r57 => Option.bind (deadline_Past a0) fun r60 => Option.bind (if (decide ((r57.1 : deadline_Due) ≠ (s5.2.2.2.1 : deadline_Due))) = true then (some true) else (if (decide (r57.2 ≠ s5.2.2.1)) = true then (some true) else (Option.bind (deadline_Within a0 a1) fun r68 => if (decide (r68 ≠ s5.2.1)) = true then (some true) else (some (decide (((r60.length : Int)) ≠ ((s5.2.2.2.2.length : Int)))))))) fun (y63 : Bool) => if y63 = true then (some false) else (Option.bind (loopW (fun (s72 : Int) => if (decide (s72 < ((r60.length : Int)))) = true then (Option.bind (at_ r60 s72) fun (x85 : deadline_Due) => Option.bind (at_ s5.2.2.2.2 s72) fun (x92 : deadline_Due) => if (decide ((x85 : deadline_Due) ≠ (x92 : deadline_Due))) = true then (Option.map Ct.rt (some false)) else (some (.nx (IntKind.i64.wrap (s72 + 1))))) else (some (.br s72))) 0) fun o74 => Lo.on o74 fun (s72 : Int) => some true))
set_option maxRecDepth 20000 in
set_option maxHeartbeats 1000000 in
theorem S_narrowslaw39_DeadlineParts (v00 : Value) (a0 : List deadline_Due) (a1 : Int) (r : Bool) (h : narrowslaw39_DeadlineParts a0 a1 = some r) :
    SpecF Try.prog 12 [v00, N a1] [] [rows 3 v00 (a0.map deadline_Due.cs)] (fun _ : Unit => True) (fun z => Bo r) (fun z M =>  M) (fun z M =>  M) := by
  refine .of func12 rfl ntmps12 rfl fun w0 D0 G0 => ?_
  unfold narrowslaw39_DeadlineParts at h
  refine .seq ?_
  refine .reg rfl ?_
  refine .op0 (OpP.toV (P.asg .k)) rfl ?_
  refine .nil ?_
  refine .then ?_
  refine .seq ?_
  refine .seq ?_
  refine .reg rfl ?_
  obtain ⟨r1, hr2, h⟩ := bnd_eq h
  refine .opg (G.call call49 .nil (S_narrowslaw39_alive  r1 hr2) .nil .nil (fun _ _ => rfl) (fun _ _ => rfl) rfl) rfl fun _ _ => ?_
  refine .opp (P.not .t0) rfl ?_
  refine .nil ?_
  refine .then ?_
  refine .cond .t0 (fun c3 => ?_) (fun c3 => ?_)
  · rw [if_pos c3] at h
    refine .seq ?_
    refine .reg rfl ?_
    refine .opp (P.asg .k) rfl ?_
    refine .nil ?_
    refine .then ?_
    refine .ret ?_
    refine .thr ?_
    cases h
    exact .finw () (.r1 rfl (.tmp .g0)) trivial (Ls.of .nil) .nil
  · rw [if_neg (ne_true_of_eq_false c3)] at h
    refine .skip ?_
    refine .then ?_
    refine .seq ?_
    refine .reg rfl ?_
    refine .opp (P.asg .k) rfl ?_
    refine .nil ?_
    refine .then ?_
    refine .seq ?_
    refine .reg rfl ?_
    refine .opx (X.alc (cs := (deadline_Due.cs ⟨⟨#[]⟩, 0, 0⟩)) zeroValue101 rfl) rfl fun b4 => ?_
    refine .nil ?_
    refine .then ?_
    refine .seq ?_
    refine .reg rfl ?_
    refine .opp (P.asg .k) rfl ?_
    refine .nil ?_
    refine .then ?_
    refine .seq ?_
    refine .reg rfl ?_
    refine .opp (P.asg .k) rfl ?_
    refine .nil ?_
    refine .then ?_
    refine .seq ?_
    refine .seq ?_
    refine .reg rfl ?_
    refine .opp (P.asg .k) rfl ?_
    refine .nil ?_
    refine .then ?_
    refine .block ?_
    refine .lnil 101 3 ?_
    obtain ⟨o7, ho8, h⟩ := bnd_eq h
    refine .loopW (γ := Value) (fun (s5 : Int × Int × Bool × deadline_Due × (List deadline_Due)) z6 => [(9, N s5.1), (8, N s5.2.1), (7, Bo s5.2.2.1), (6, pt b4 0), (5, z6), (0, v00), (1, N a1)]) (fun (s5 : Int × Int × Bool × deadline_Due × (List deadline_Due)) z6 => [blk b4 101 (deadline_Due.cs s5.2.2.2.1), lst 101 3 z6 (s5.2.2.2.2.map deadline_Due.cs)]) (fun (s5 : Int × Int × Bool × deadline_Due × (List deadline_Due)) z6 => [rows 3 v00 (a0.map deadline_Due.cs)]) nilSl ho8 (.cons Mm.m0 (.cons Mm.m1 (.cons Mm.m2 (.cons Mm.m3 (.cons Mm.m4 (.cons Mm.m5 (.cons Mm.m6 .nil))))))) (.of (.cons .k1 (.cons .k0 .nil))) (.cons Mm.m0 .nil) (fun n13 s5 z6 hr11 => ?_)
    obtain ⟨ct12, hc9, hn10⟩ := loopK_at hr11
    refine .seq ?_
    refine .seq ?_
    refine .reg rfl ?_
    refine .opp (P.mov .g0) rfl ?_
    refine .opp (P.mov .g6) rfl ?_
    refine .op (V.lnr (n := a0.length) .t0 Mm.m0 map_len runUnderlying99) rfl ?_
    refine .opp (P.bin .t1 .t0 .lss) rfl ?_
    refine .nil ?_
    refine .then ?_
    refine .cond .t0 (fun c14 => ?_) (fun c14 => ?_)
    · rw [if_pos c14] at hc9
      refine .skip ?_
      refine .then ?_
      obtain ⟨y15, hj17, hc9⟩ := bnd_eq hc9
      refine .cutx (γ := Value) (E1 := fun z16 => [(5, z16), (9, N s5.1), (8, N y15.1), (7, Bo y15.2.1), (6, pt b4 0), (0, v00), (1, N a1)]) (L1 := fun z16 => [blk b4 101 (deadline_Due.cs y15.2.2.1), lst 101 3 z16 (y15.2.2.2.map deadline_Due.cs)]) (R1 := fun z16 => [rows 3 v00 (a0.map deadline_Due.cs)]) ?_ (fun z16 => ?_)
      · clear hc9
        refine .block ?_
        refine .seq ?_
        refine .seq ?_
        refine .reg rfl ?_
        refine .opp (P.mov .g5) rfl ?_
        refine .opp (P.mov .g1) rfl ?_
        obtain ⟨x21, hx22, hj17⟩ := bnd_eq hj17
        obtain ⟨i23, hi24, hx22⟩ := at_eq hx22
        have hi24_ : (s5.1).toNat = i23 := by rw [hi24]; rfl
        refine .ixq Mm.m0 (map_get hx22) fun p18 q19 hq20 => ?_
        refine .opp (P.ixi (i := i23) .t0 hi24 .t0 hq20 runUnderlying99 sizeOf101) rfl ?_
        refine .opp (P.fa (off' := q19 + 2) .t0 fa_101_2 rfl) rfl ?_
        refine .op (V.ldx (u := N x21.Left) (off := q19) (k := 2) .t0 hq20 Mm.m0 (map_get hx22) (.one isAgg3 rfl)) rfl ?_
        refine .opp (P.bin .t0 .k .leq) rfl ?_
        refine .nil ?_
        refine .then ?_
        refine .cond .t0 (fun c25 => ?_) (fun c25 => ?_)
        · rw [if_pos c25] at hj17
          refine .seq ?_
          refine .reg rfl ?_
          refine .opp (P.mov .g4) rfl ?_
          refine .opp (P.mov .g6) rfl ?_
          refine .opp (P.mov .g2) rfl ?_
          obtain ⟨x29, hx30, hj17⟩ := bnd_eq hj17
          obtain ⟨i31, hi32, hx30⟩ := at_eq hx30
          have hi32_ : (s5.1).toNat = i31 := by rw [hi32]; rfl
          refine .ixq Mm.m0 (map_get hx30) fun p26 q27 hq28 => ?_
          refine .opp (P.ixi (i := i31) .t0 hi32 .t0 hq28 runUnderlying99 sizeOf101) rfl ?_
          refine .op (V.ldx0 (u := Ag (deadline_Due.cs x29)) .t0 hq28 Mm.m0 (map_get hx30) (.agg isAgg101 sizeOf101 rfl rfl)) rfl ?_
          refine .opg (G.bsl (cs := (deadline_Due.cs x29)) .t0 runUnderlying99 sizeOf101 zeroValue101 rfl rfl rfl rfl rfl) rfl fun u33 _ => ?_
          obtain ⟨hb35, hj17⟩ := grd_eq hj17
          refine .opg (G.app (by_ := 32) .t1 .t0 .k2 (.inr (.inr ⟨_, Mm.m0⟩)) runUnderlying99 runUnderlying99 sizeOf101 typeInfo101 rfl rfl zeroValue101 rfl rfl (by simpa using hb35) rfl) rfl fun u34 _ => ?_
          refine .conseq .k0 (q := lst 101 3 u34 (((s5.2.2.2.2 ++ ([x29] : List deadline_Due))).map deadline_Due.cs)) (fun _ hh => by simpa [List.map_append] using hh) ?_
          refine .drop .k5 ?_
          refine .opp (P.asg .t0) rfl ?_
          refine .nil ?_
          refine .then ?_
          refine .exit ?_
          refine .thx ?_
          refine .inb ?_
          cases hj17
          exact .stj u34 (.cons Mm.m0 (.cons Mm.m1 (.cons Mm.m2 (.cons Mm.m3 (.cons Mm.m4 (.cons Mm.m5 (.cons Mm.m6 .nil))))))) (.of (.cons .k2 (.cons .k0 .nil))) (.cons Mm.m0 .nil)
        · rw [if_neg (ne_true_of_eq_false c25)] at hj17
          refine .skip ?_
          refine .then ?_
          obtain ⟨y36, hj38, hj17⟩ := bnd_eq hj17
          refine .cutx (γ := Unit) (E1 := fun z37 => [(7, Bo y36.1), (9, N s5.1), (8, N s5.2.1), (6, pt b4 0), (5, z6), (0, v00), (1, N a1)]) (L1 := fun z37 => [blk b4 101 (deadline_Due.cs y36.2), lst 101 3 z6 (s5.2.2.2.2.map deadline_Due.cs)]) (R1 := fun z37 => [rows 3 v00 (a0.map deadline_Due.cs)]) ?_ (fun z37 => ?_)
          · clear hj17
            refine .seq ?_
            refine .reg rfl ?_
            refine .opp (P.mov .g2) rfl ?_
            refine .opp (P.not .t0) rfl ?_
            refine .nil ?_
            refine .then ?_
            refine .cond .t0 (fun c39 => ?_) (fun c39 => ?_)
            · rw [if_pos c39] at hj38
              refine .reg rfl ?_
              refine .opp (P.mov .g5) rfl ?_
              refine .opp (P.mov .g1) rfl ?_
              obtain ⟨x43, hx44, hj38⟩ := bnd_eq hj38
              obtain ⟨i45, hi46, hx44⟩ := at_eq hx44
              have hi46_ : (s5.1).toNat = i45 := by rw [hi46]; rfl
              refine .ixq Mm.m0 (map_get hx44) fun p40 q41 hq42 => ?_
              refine .opp (P.ixi (i := i45) .t0 hi46 .t0 hq42 runUnderlying99 sizeOf101) rfl ?_
              refine .op (V.ldx0 (u := Ag (deadline_Due.cs x43)) .t0 hq42 Mm.m0 (map_get hx44) (.agg isAgg101 sizeOf101 rfl rfl)) rfl ?_
              refine .opg (G.str .t0 .g3 .k0 (.mk (cs' := (deadline_Due.cs x43)) sizeOf101 rfl rfl rfl rfl)) rfl fun _ _ => ?_
              refine .drop .k2 ?_
              refine .opp (P.asg .k) rfl ?_
              refine .nil ?_
              cases hj38
              exact .stj () (.cons Mm.m0 (.cons Mm.m1 (.cons Mm.m2 (.cons Mm.m3 (.cons Mm.m4 (.cons Mm.m5 (.cons Mm.m6 .nil))))))) (.of (.cons .k0 (.cons .k0 .nil))) (.cons Mm.m0 .nil)
            · rw [if_neg (ne_true_of_eq_false c39)] at hj38
              refine .skip ?_
              cases hj38
              exact .stj () (.cons Mm.m2 (.cons Mm.m0 (.cons Mm.m1 (.cons Mm.m3 (.cons Mm.m4 (.cons Mm.m5 (.cons Mm.m6 .nil))))))) (.of (.cons .k0 (.cons .k0 .nil))) (.cons Mm.m0 .nil)
          · clear hj38
            refine .seq ?_
            refine .reg rfl ?_
            refine .opp (P.mov .g5) rfl ?_
            refine .opp (P.mov .g2) rfl ?_
            obtain ⟨x50, hx51, hj17⟩ := bnd_eq hj17
            obtain ⟨i52, hi53, hx51⟩ := at_eq hx51
            have hi53_ : (s5.1).toNat = i52 := by rw [hi53]; rfl
            refine .ixq Mm.m0 (map_get hx51) fun p47 q48 hq49 => ?_
            refine .opp (P.ixi (i := i52) .t0 hi53 .t0 hq49 runUnderlying99 sizeOf101) rfl ?_
            refine .opp (P.fa (off' := q48 + 2) .t0 fa_101_2 rfl) rfl ?_
            refine .op (V.ldx (u := N x50.Left) (off := q48) (k := 2) .t0 hq49 Mm.m0 (map_get hx51) (.one isAgg3 rfl)) rfl ?_
            refine .opp (P.mov .g7) rfl ?_
            refine .opp (P.bin .t1 .t0 .leq) rfl ?_
            refine .nil ?_
            refine .then ?_
            refine .cond .t0 (fun c54 => ?_) (fun c54 => ?_)
            · rw [if_pos c54] at hj17
              refine .reg rfl ?_
              refine .opp (P.mov .g2) rfl ?_
              refine .opp (P.bin .t0 .k .add) rfl ?_
              refine .drop .k3 ?_
              refine .opp (P.asg .t0) rfl ?_
              refine .nil ?_
              refine .inn ?_
              cases hj17
              exact .stj z6 (.cons Mm.m4 (.cons Mm.m2 (.cons Mm.m0 (.cons Mm.m1 (.cons Mm.m3 (.cons Mm.m5 (.cons Mm.m6 .nil))))))) (.of (.cons .k0 (.cons .k0 .nil))) (.cons Mm.m0 .nil)
            · rw [if_neg (ne_true_of_eq_false c54)] at hj17
              refine .skip ?_
              refine .inn ?_
              cases hj17
              exact .stj z6 (.cons Mm.m4 (.cons Mm.m1 (.cons Mm.m2 (.cons Mm.m0 (.cons Mm.m3 (.cons Mm.m5 (.cons Mm.m6 .nil))))))) (.of (.cons .k0 (.cons .k0 .nil))) (.cons Mm.m0 .nil)
      · clear hj17
        refine .reg rfl ?_
        refine .opp (P.mov .g1) rfl ?_
        refine .opp (P.bin .t0 .k .add) rfl ?_
        refine .drop .k2 ?_
        refine .opp (P.asg .t0) rfl ?_
        refine .nil ?_
        cases hc9
        obtain ⟨m55, hm56, hn10⟩ := hn10
        exact .rdW ((IntKind.i64.wrap (s5.1 + 1), y15.1, y15.2.1, y15.2.2.1, y15.2.2.2)) z16 hm56 hn10 (.cons Mm.m0 (.cons Mm.m2 (.cons Mm.m3 (.cons Mm.m4 (.cons Mm.m1 (.cons Mm.m5 (.cons Mm.m6 .nil))))))) (.of (.cons .k0 (.cons .k0 .nil))) (.cons Mm.m0 .nil)
    · rw [if_neg (ne_true_of_eq_false c14)] at hc9
      refine .exit ?_
      refine .thx ?_
      cases hc9
      refine .told (γ := Value) h hn10 (fun (s5 : Int × Int × Bool × deadline_Due × (List deadline_Due)) z6 => [(9, N s5.1), (8, N s5.2.1), (7, Bo s5.2.2.1), (6, pt b4 0), (5, z6), (0, v00), (1, N a1)]) (fun (s5 : Int × Int × Bool × deadline_Due × (List deadline_Due)) z6 => [blk b4 101 (deadline_Due.cs s5.2.2.2.1), lst 101 3 z6 (s5.2.2.2.2.map deadline_Due.cs)]) (fun (s5 : Int × Int × Bool × deadline_Due × (List deadline_Due)) z6 => [rows 3 v00 (a0.map deadline_Due.cs)]) z6 (.cons Mm.m0 (.cons Mm.m1 (.cons Mm.m2 (.cons Mm.m3 (.cons Mm.m4 (.cons Mm.m5 (.cons Mm.m6 .nil))))))) (.of (.cons .k0 (.cons .k0 .nil))) (.cons Mm.m0 .nil) (fun s5 z6 h' => ?_)
      replace h := h'
      refine .thx ?_
      refine .inb ?_
      refine .then ?_
      refine .seq ?_
      refine .reg rfl ?_
      refine .opp (P.mov .g5) rfl ?_
      obtain ⟨r57, hr58, h⟩ := bnd_eq h
      refine .opg (G.call call50 (.cons .t0 .nil) (S_deadline_Next v00 a0 r57 hr58) .nil (.cons Mm.m0 .nil) (fun _ _ => rfl) (fun _ _ => rfl) rfl) rfl fun _ _ => ?_
      refine .opp (P.mov .t0) rfl ?_
      refine .opp (P.ext (v := Ag (deadline_Due.cs r57.1)) .g0 rfl) rfl ?_
      refine .opp (P.ext (v := Bo r57.2) .t1 rfl) rfl ?_
      refine .opx (X.alc (cs := (deadline_Due.cs ⟨⟨#[]⟩, 0, 0⟩)) zeroValue101 rfl) rfl fun b59 => ?_
      refine .opg (G.str .t2 .g0 .k0 (.mk (cs' := (deadline_Due.cs r57.1)) sizeOf101 rfl rfl rfl rfl)) rfl fun _ _ => ?_
      refine .opp (P.asg .t1) rfl ?_
      refine .nil ?_
      refine .then ?_
      refine .seq ?_
      refine .reg rfl ?_
      refine .opp (P.mov .g7) rfl ?_
      obtain ⟨r60, hr61, h⟩ := bnd_eq h
      refine .opg (G.call call51 (.cons .t0 .nil) (S_deadline_Past v00 a0 r60 hr61) .nil (.cons Mm.m0 .nil) (fun _ _ => rfl) (fun _ _ => rfl) rfl) rfl fun u62 _ => ?_
      refine .opp (P.asg .t0) rfl ?_
      refine .nil ?_
      refine .then ?_
      refine .seq ?_
      obtain ⟨y63, hj65, h⟩ := bnd_eq h
      refine .cutx (γ := Unit) (E1 := fun z64 => [(78, Bo y63), (12, u62), (5, z6)]) (L1 := fun z64 => [lst 101 3 u62 (r60.map deadline_Due.cs), lst 101 3 z6 (s5.2.2.2.2.map deadline_Due.cs)]) (R1 := fun z64 => [rows 3 v00 (a0.map deadline_Due.cs)]) ?_ (fun z64 => ?_)
      · clear h
        refine .reg rfl ?_
        refine .op (V.ld (v := Ag (deadline_Due.cs r57.1)) .t2 .k1 (.agg isAgg101 sizeOf101 rfl rfl)) rfl ?_
        refine .op (V.ld (v := Ag (deadline_Due.cs s5.2.2.2.1)) .t6 .k2 (.agg isAgg101 sizeOf101 rfl rfl)) rfl ?_
        refine .opp (P.bin .t1 .t0 (eq_101_neq _ _)) rfl ?_
        refine .opp (P.mov .t0) rfl ?_
        refine .split .k0 (fun c66 => ?_) (fun c66 => ?_)
        · rw [if_pos c66] at hj65
          refine .gno rfl .g0 rfl rfl ?_
          refine .gno rfl .g0 rfl rfl ?_
          refine .gno rfl .g0 rfl rfl ?_
          refine .opp (P.pickT .t0 .k) rfl ?_
          refine .opp (P.mov .t0) rfl ?_
          refine .gno rfl .g0 rfl rfl ?_
          refine .gno rfl .g0 rfl rfl ?_
          refine .gno rfl .g0 rfl rfl ?_
          refine .gno rfl .g0 rfl rfl ?_
          refine .gno rfl .g0 rfl rfl ?_
          refine .opp (P.pickT .t0 .k) rfl ?_
          refine .opp (P.mov .t0) rfl ?_
          refine .gno rfl .g0 rfl rfl ?_
          refine .gno rfl .g0 rfl rfl ?_
          refine .gno rfl .g0 rfl rfl ?_
          refine .gno rfl .g0 rfl rfl ?_
          refine .gno rfl .g0 rfl rfl ?_
          refine .opp (P.pickT .t0 .k) rfl ?_
          refine .nil ?_
          cases hj65
          exact .stj () (.cons Mm.m0 (.cons Mm.m1 (.cons Mm.m6 .nil))) (.of (.cons .k0 (.cons .k2 .nil))) (.cons Mm.m0 .nil)
        · rw [if_neg (ne_true_of_eq_false c66)] at hj65
          refine .gyes rfl .g0 ?_
          refine .opp (P.mov .t2) rfl ?_
          refine .gyes rfl .g1 ?_
          refine .opp (P.mov .t5) rfl ?_
          refine .gyes rfl .g2 ?_
          refine .opp (P.bin .t1 .t0 (.bool_neq (by kernel_rfl))) rfl ?_
          refine .opp (P.pickF .t1 .t0) rfl ?_
          refine .opp (P.mov .t0) rfl ?_
          refine .split .k0 (fun c67 => ?_) (fun c67 => ?_)
          · rw [if_pos c67] at hj65
            refine .gno rfl .g0 rfl rfl ?_
            refine .gno rfl .g0 rfl rfl ?_
            refine .gno rfl .g0 rfl rfl ?_
            refine .gno rfl .g0 rfl rfl ?_
            refine .gno rfl .g0 rfl rfl ?_
            refine .opp (P.pickT .t0 .k) rfl ?_
            refine .opp (P.mov .t0) rfl ?_
            refine .gno rfl .g0 rfl rfl ?_
            refine .gno rfl .g0 rfl rfl ?_
            refine .gno rfl .g0 rfl rfl ?_
            refine .gno rfl .g0 rfl rfl ?_
            refine .gno rfl .g0 rfl rfl ?_
            refine .opp (P.pickT .t0 .k) rfl ?_
            refine .nil ?_
            cases hj65
            exact .stj () (.cons Mm.m0 (.cons Mm.m1 (.cons Mm.m4 .nil))) (.of (.cons .k0 (.cons .k2 .nil))) (.cons Mm.m0 .nil)
          · rw [if_neg (ne_true_of_eq_false c67)] at hj65
            refine .gyes rfl .g0 ?_
            refine .opp (P.mov .t5) rfl ?_
            refine .gyes rfl .g1 ?_
            refine .opp (P.mov .t6) rfl ?_
            refine .gyes rfl .g2 ?_
            obtain ⟨r68, hr69, hj65⟩ := bnd_eq hj65
            refine .opg (G.call call52 (.cons .t1 (.cons .t0 .nil)) (S_deadline_Within v00 a0 a1 r68 hr69) .nil (.cons Mm.m0 .nil) (fun _ _ => rfl) (fun _ _ => rfl) rfl) rfl fun _ _ => ?_
            refine .gyes rfl .g1 ?_
            refine .opp (P.mov .t4) rfl ?_
            refine .gyes rfl .g2 ?_
            refine .opp (P.bin .t1 .t0 .neq) rfl ?_
            refine .opp (P.pickF .t1 .t0) rfl ?_
            refine .opp (P.mov .t0) rfl ?_
            refine .split .k0 (fun c70 => ?_) (fun c70 => ?_)
            · rw [if_pos c70] at hj65
              refine .gno rfl .g0 rfl rfl ?_
              refine .gno rfl .g0 rfl rfl ?_
              refine .gno rfl .g0 rfl rfl ?_
              refine .gno rfl .g0 rfl rfl ?_
              refine .gno rfl .g0 rfl rfl ?_
              refine .opp (P.pickT .t0 .k) rfl ?_
              refine .nil ?_
              cases hj65
              exact .stj () (.cons Mm.m0 (.cons Mm.m1 (.cons Mm.m3 .nil))) (.of (.cons .k0 (.cons .k2 .nil))) (.cons Mm.m0 .nil)
            · rw [if_neg (ne_true_of_eq_false c70)] at hj65
              refine .gyes rfl .g0 ?_
              refine .opp (P.mov .g1) rfl ?_
              refine .gyes rfl .g1 ?_
              refine .op (V.lnl (n := r60.length) .t0 .k0 map_len runUnderlying99) rfl ?_
              refine .gyes rfl .g1 ?_
              refine .opp (P.mov .g4) rfl ?_
              refine .gyes rfl .g2 ?_
              refine .op (V.lnl (n := s5.2.2.2.2.length) .t0 .k3 map_len runUnderlying99) rfl ?_
              refine .gyes rfl .g2 ?_
              refine .opp (P.bin .t1 .t0 .neq) rfl ?_
              refine .opp (P.pickF .t1 .t0) rfl ?_
              refine .nil ?_
              cases hj65
              exact .stj () (.cons Mm.m0 (.cons Mm.m1 (.cons Mm.m3 .nil))) (.of (.cons .k0 (.cons .k2 .nil))) (.cons Mm.m0 .nil)
      · clear hj65
        refine .cond .t0 (fun c71 => ?_) (fun c71 => ?_)
        · rw [if_pos c71] at h
          refine .seq ?_
          refine .reg rfl ?_
          refine .opp (P.asg .k) rfl ?_
          refine .nil ?_
          refine .then ?_
          refine .ret ?_
          refine .thr ?_
          cases h
          exact .finw () (.r1 rfl (.tmp .g0)) trivial (Ls.of .nil) .nil
        · rw [if_neg (ne_true_of_eq_false c71)] at h
          refine .skip ?_
          refine .then ?_
          refine .seq ?_
          refine .seq ?_
          refine .reg rfl ?_
          refine .opp (P.asg .k) rfl ?_
          refine .nil ?_
          refine .then ?_
          refine .block ?_
          obtain ⟨o74, ho75, h⟩ := bnd_eq h
          refine .loopW (γ := Unit) (fun (s72 : Int) z73 => [(13, N s72), (12, u62), (5, z6)]) (fun (s72 : Int) z73 => [lst 101 3 u62 (r60.map deadline_Due.cs), lst 101 3 z6 (s5.2.2.2.2.map deadline_Due.cs)]) (fun (s72 : Int) z73 => [rows 3 v00 (a0.map deadline_Due.cs)]) () ho75 (.cons Mm.m0 (.cons Mm.m1 (.cons Mm.m2 .nil))) (.of (.cons .k0 (.cons .k0 .nil))) (.cons Mm.m0 .nil) (fun n80 s72 z73 hr78 => ?_)
          obtain ⟨ct79, hc76, hn77⟩ := loopK_at hr78
          refine .seq ?_
          refine .seq ?_
          refine .reg rfl ?_
          refine .opp (P.mov .g0) rfl ?_
          refine .opp (P.mov .g2) rfl ?_
          refine .op (V.lnl (n := r60.length) .t0 .k0 map_len runUnderlying99) rfl ?_
          refine .opp (P.bin .t1 .t0 .lss) rfl ?_
          refine .nil ?_
          refine .then ?_
          refine .cond .t0 (fun c81 => ?_) (fun c81 => ?_)
          · rw [if_pos c81] at hc76
            refine .skip ?_
            refine .then ?_
            refine .seq ?_
            refine .block ?_
            refine .seq ?_
            refine .draw 9 (.on 0 .pu (.on 1 .pu (.on 2 .pu (.on 4 .pu (.on 5 .pu (.on 6 .pu (.on 3 .ld (.on 7 .ld (.on 8 .pu .nl))))))))) follows_mixed (.thn (.inb (.thn (.thn (.inb (.thn .body)))))) (by kernel_rfl) ?_
            refine .dpu rfl (.n rfl) (P.mov .g1) rfl rfl ?_
            refine .dpu rfl (.n rfl) (P.mov .g1) rfl rfl ?_
            obtain ⟨x85, hx86, hc76⟩ := bnd_eq hc76
            obtain ⟨i87, hi88, hx86⟩ := at_eq hx86
            have hi88_ : (s72).toNat = i87 := by rw [hi88]; rfl
            refine .ixql .k0 (map_get hx86) fun p82 q83 hq84 => ?_
            refine .dpu rfl (.n rfl) (P.ixi (i := i87) .t0 hi88 .t0 hq84 runUnderlying99 sizeOf101) rfl rfl ?_
            refine .dpu rfl (.n rfl) (P.mov .g3) rfl rfl ?_
            refine .dpu rfl (.n rfl) (P.mov .g2) rfl rfl ?_
            obtain ⟨x92, hx93, hc76⟩ := bnd_eq hc76
            obtain ⟨i94, hi95, hx93⟩ := at_eq hx93
            have hi95_ : (s72).toNat = i94 := by rw [hi95]; rfl
            refine .ixql .k1 (map_get hx93) fun p89 q90 hq91 => ?_
            refine .dpu rfl (.n rfl) (P.ixi (i := i94) .t0 hi95 .t0 hq91 runUnderlying99 sizeOf101) rfl rfl ?_
            refine .dld rfl (.n rfl) (V.ldxl0 (u := Ag (deadline_Due.cs x85)) .t1 hq84 .k0 (map_get hx86) (.agg isAgg101 sizeOf101 rfl rfl)) (fun _ h => h) rfl rfl ?_
            refine .dld rfl (.n rfl) (V.ldxl0 (u := Ag (deadline_Due.cs x92)) .t1 hq91 .k1 (map_get hx93) (.agg isAgg101 sizeOf101 rfl rfl)) (fun _ h => h) rfl rfl ?_
            refine .dpu rfl (.n rfl) (P.bin .t1 .t0 (eq_101_neq _ _)) rfl rfl ?_
            refine .dnil ?_
            refine .then ?_
            refine .cond .t0 (fun c96 => ?_) (fun c96 => ?_)
            · rw [if_pos c96] at hc76
              refine .seq ?_
              refine .reg rfl ?_
              refine .opp (P.asg .k) rfl ?_
              refine .nil ?_
              refine .then ?_
              refine .ret ?_
              refine .inr ?_
              refine .thr ?_
              obtain ⟨x97, hx98, rfl⟩ := map_rt hc76
              obtain rfl := hn77
              obtain rfl := rt_on h
              refine .thr ?_
              refine .inr ?_
              refine .thr ?_
              cases hx98
              exact .finw () (.r1 rfl (.tmp .g0)) trivial (Ls.of .nil) .nil
            · rw [if_neg (ne_true_of_eq_false c96)] at hc76
              refine .skip ?_
              refine .inn ?_
              refine .then ?_
              refine .reg rfl ?_
              refine .opp (P.mov .g0) rfl ?_
              refine .opp (P.bin .t0 .k .add) rfl ?_
              refine .drop .k1 ?_
              refine .opp (P.asg .t0) rfl ?_
              refine .nil ?_
              cases hc76
              obtain ⟨m99, hm100, hn77⟩ := hn77
              exact .rdW (IntKind.i64.wrap (s72 + 1)) () hm100 hn77 (.cons Mm.m0 (.cons Mm.m1 (.cons Mm.m2 .nil))) (.of (.cons .k0 (.cons .k0 .nil))) (.cons Mm.m0 .nil)
          · rw [if_neg (ne_true_of_eq_false c81)] at hc76
            refine .exit ?_
            refine .thx ?_
            cases hc76
            refine .told (γ := Unit) h hn77 (fun (s72 : Int) _ => [(13, N s72), (12, u62), (5, z6)]) (fun (s72 : Int) _ => [lst 101 3 u62 (r60.map deadline_Due.cs), lst 101 3 z6 (s5.2.2.2.2.map deadline_Due.cs)]) (fun (s72 : Int) _ => [rows 3 v00 (a0.map deadline_Due.cs)]) () (.cons Mm.m0 (.cons Mm.m1 (.cons Mm.m2 .nil))) (.of (.cons .k0 (.cons .k0 .nil))) (.cons Mm.m0 .nil) (fun s72 _ h' => ?_)
            replace h := h'
            refine .thx ?_
            refine .inb ?_
            refine .then ?_
            refine .seq ?_
            refine .reg rfl ?_
            refine .opp (P.asg .k) rfl ?_
            refine .nil ?_
            refine .then ?_
            refine .ret ?_
            cases h
            exact .finw () (.r1 rfl (.tmp .g0)) trivial (Ls.of .nil) .nil
attribute [irreducible] narrowslaw39_DeadlineParts
end Go.Sl
