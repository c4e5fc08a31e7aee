/- Walked code of the program, its pure functions and their contracts. -/
import Derived.Test.YteijfoldbinghaaGreatSlHpa
set_option linter.unusedVariables false
set_option linter.unusedSimpArgs false
namespace Go.Sl
open Go.Proofs Go.Proofs.Tryz
structure chain_Chain where
  s : escrow_State
  pool : List api_Tx
  events : List api_Event
  made : Bool
  deriving DecidableEq
def chain_Chain.cs (x : chain_Chain) (z0 z1 z2 : Value) : List Value := [N x.s.Side, N x.s.Time, U x.s.Purse.a0.a0.a0, U x.s.Purse.a0.a0.a1, U x.s.Purse.a0.a0.a2, U x.s.Purse.a0.a0.a3, U x.s.Purse.a0.a1.a0, U x.s.Purse.a0.a1.a1, U x.s.Purse.a0.a1.a2, U x.s.Purse.a0.a1.a3, U x.s.Purse.a1.a0.a0, U x.s.Purse.a1.a0.a1, U x.s.Purse.a1.a0.a2, U x.s.Purse.a1.a0.a3, U x.s.Purse.a1.a1.a0, U x.s.Purse.a1.a1.a1, U x.s.Purse.a1.a1.a2, U x.s.Purse.a1.a1.a3, U x.s.Purse.a2.a0.a0, U x.s.Purse.a2.a0.a1, U x.s.Purse.a2.a0.a2, U x.s.Purse.a2.a0.a3, U x.s.Purse.a2.a1.a0, U x.s.Purse.a2.a1.a1, U x.s.Purse.a2.a1.a2, U x.s.Purse.a2.a1.a3, U x.s.Purse.a3.a0.a0, U x.s.Purse.a3.a0.a1, U x.s.Purse.a3.a0.a2, U x.s.Purse.a3.a0.a3, U x.s.Purse.a3.a1.a0, U x.s.Purse.a3.a1.a1, U x.s.Purse.a3.a1.a2, U x.s.Purse.a3.a1.a3, U x.s.Purse.a4.a0.a0, U x.s.Purse.a4.a0.a1, U x.s.Purse.a4.a0.a2, U x.s.Purse.a4.a0.a3, U x.s.Purse.a4.a1.a0, U x.s.Purse.a4.a1.a1, U x.s.Purse.a4.a1.a2, U x.s.Purse.a4.a1.a3, U x.s.Purse.a5.a0.a0, U x.s.Purse.a5.a0.a1, U x.s.Purse.a5.a0.a2, U x.s.Purse.a5.a0.a3, U x.s.Purse.a5.a1.a0, U x.s.Purse.a5.a1.a1, U x.s.Purse.a5.a1.a2, U x.s.Purse.a5.a1.a3, U x.s.Purse.a6.a0.a0, U x.s.Purse.a6.a0.a1, U x.s.Purse.a6.a0.a2, U x.s.Purse.a6.a0.a3, U x.s.Purse.a6.a1.a0, U x.s.Purse.a6.a1.a1, U x.s.Purse.a6.a1.a2, U x.s.Purse.a6.a1.a3, U x.s.Purse.a7.a0.a0, U x.s.Purse.a7.a0.a1, U x.s.Purse.a7.a0.a2, U x.s.Purse.a7.a0.a3, U x.s.Purse.a7.a1.a0, U x.s.Purse.a7.a1.a1, U x.s.Purse.a7.a1.a2, U x.s.Purse.a7.a1.a3, U x.s.Vault.a0.a0.a0, U x.s.Vault.a0.a0.a1, U x.s.Vault.a0.a0.a2, U x.s.Vault.a0.a0.a3, U x.s.Vault.a0.a1.a0, U x.s.Vault.a0.a1.a1, U x.s.Vault.a0.a1.a2, U x.s.Vault.a0.a1.a3, U x.s.Vault.a1.a0.a0, U x.s.Vault.a1.a0.a1, U x.s.Vault.a1.a0.a2, U x.s.Vault.a1.a0.a3, U x.s.Vault.a1.a1.a0, U x.s.Vault.a1.a1.a1, U x.s.Vault.a1.a1.a2, U x.s.Vault.a1.a1.a3, U x.s.Vault.a2.a0.a0, U x.s.Vault.a2.a0.a1, U x.s.Vault.a2.a0.a2, U x.s.Vault.a2.a0.a3, U x.s.Vault.a2.a1.a0, U x.s.Vault.a2.a1.a1, U x.s.Vault.a2.a1.a2, U x.s.Vault.a2.a1.a3, U x.s.Vault.a3.a0.a0, U x.s.Vault.a3.a0.a1, U x.s.Vault.a3.a0.a2, U x.s.Vault.a3.a0.a3, U x.s.Vault.a3.a1.a0, U x.s.Vault.a3.a1.a1, U x.s.Vault.a3.a1.a2, U x.s.Vault.a3.a1.a3, U x.s.Vault.a4.a0.a0, U x.s.Vault.a4.a0.a1, U x.s.Vault.a4.a0.a2, U x.s.Vault.a4.a0.a3, U x.s.Vault.a4.a1.a0, U x.s.Vault.a4.a1.a1, U x.s.Vault.a4.a1.a2, U x.s.Vault.a4.a1.a3, U x.s.Vault.a5.a0.a0, U x.s.Vault.a5.a0.a1, U x.s.Vault.a5.a0.a2, U x.s.Vault.a5.a0.a3, U x.s.Vault.a5.a1.a0, U x.s.Vault.a5.a1.a1, U x.s.Vault.a5.a1.a2, U x.s.Vault.a5.a1.a3, U x.s.Vault.a6.a0.a0, U x.s.Vault.a6.a0.a1, U x.s.Vault.a6.a0.a2, U x.s.Vault.a6.a0.a3, U x.s.Vault.a6.a1.a0, U x.s.Vault.a6.a1.a1, U x.s.Vault.a6.a1.a2, U x.s.Vault.a6.a1.a3, U x.s.Vault.a7.a0.a0, U x.s.Vault.a7.a0.a1, U x.s.Vault.a7.a0.a2, U x.s.Vault.a7.a0.a3, U x.s.Vault.a7.a1.a0, U x.s.Vault.a7.a1.a1, U x.s.Vault.a7.a1.a2, U x.s.Vault.a7.a1.a3, N x.s.Nonces.a0, N x.s.Nonces.a1, N x.s.Nonces.a2, N x.s.Nonces.a3, N x.s.Nonces.a4, N x.s.Nonces.a5, N x.s.Nonces.a6, N x.s.Nonces.a7, U x.s.Held.a0.a0, U x.s.Held.a0.a1, U x.s.Held.a0.a2, U x.s.Held.a0.a3, U x.s.Held.a1.a0, U x.s.Held.a1.a1, U x.s.Held.a1.a2, U x.s.Held.a1.a3, U x.s.Burnt.a0, U x.s.Burnt.a1, U x.s.Burnt.a2, U x.s.Burnt.a3, z0, z1, z2, .bool x.made]
def chain_Chain.z : chain_Chain := ⟨escrow_State.z, [], [], false⟩
structure escrow_must where
  e_ : Int
  deriving DecidableEq
def escrow_must.cs (x : escrow_must) : List Value := [N x.e_]
def escrow_must.z : escrow_must := ⟨0⟩
theorem fa_32_1 : FaV Tryz.prog 32 1 1 := .mk runUnderlying32 rfl sizeOf9 rfl rfl
theorem fa_32_2 : FaV Tryz.prog 32 2 2 := .mk runUnderlying32 rfl sizeOf3 rfl rfl
theorem fa_32_6 : FaV Tryz.prog 32 6 6 := .mk runUnderlying32 rfl sizeOf9 rfl rfl
theorem fa_34_1 : FaV Tryz.prog 34 1 4 := .mk runUnderlying34 rfl sizeOf3 rfl rfl
theorem fa_36_1 : FaV Tryz.prog 36 1 1 := .mk runUnderlying36 rfl sizeOf3 rfl rfl
theorem fa_36_8 : FaV Tryz.prog 36 8 24 := .mk runUnderlying36 rfl sizeOf9 rfl rfl
theorem fa_45_2 : FaV Tryz.prog 45 2 2 := .mk runUnderlying45 rfl sizeOf41 rfl rfl
theorem fa_45_3 : FaV Tryz.prog 45 3 66 := .mk runUnderlying45 rfl sizeOf41 rfl rfl
theorem fa_45_4 : FaV Tryz.prog 45 4 130 := .mk runUnderlying45 rfl sizeOf42 rfl rfl
theorem fa_45_6 : FaV Tryz.prog 45 6 146 := .mk runUnderlying45 rfl sizeOf30 rfl rfl
theorem fa_45_7 : FaV Tryz.prog 45 7 150 := .mk runUnderlying45 rfl sizeOf43 rfl rfl
theorem fa_62_0 : FaV Tryz.prog 62 0 0 := .mk runUnderlying62 rfl sizeOf45 rfl rfl
theorem fa_62_1 : FaV Tryz.prog 62 1 151 := .mk runUnderlying62 rfl sizeOf22 rfl rfl
theorem fa_62_3 : FaV Tryz.prog 62 3 153 := .mk runUnderlying62 rfl sizeOf4 rfl rfl
theorem fa_111_0 : FaV Tryz.prog 111 0 0 := .mk runUnderlying111 rfl sizeOf63 rfl rfl
theorem pl_45 : ∀ w, ((#[{ name := "Side", type := 3, offset := 0, embedded := false, tag := "", pkgPath := "", byteOffset := 0 }, { name := "Time", type := 3, offset := 1, embedded := false, tag := "", pkgPath := "", byteOffset := 8 }, { name := "Purse", type := 41, offset := 2, embedded := false, tag := "", pkgPath := "", byteOffset := 16 }, { name := "Vault", type := 41, offset := 66, embedded := false, tag := "", pkgPath := "", byteOffset := 528 }, { name := "Nonces", type := 42, offset := 130, embedded := false, tag := "", pkgPath := "", byteOffset := 1040 }, { name := "Held", type := 39, offset := 138, embedded := false, tag := "", pkgPath := "", byteOffset := 1104 }, { name := "Burnt", type := 30, offset := 146, embedded := false, tag := "", pkgPath := "", byteOffset := 1168 }, { name := "Locks", type := 43, offset := 150, embedded := false, tag := "", pkgPath := "", byteOffset := 1200 }] : Array Field).mapM fun f => do pure (f.offset, ← sizeOf f.type) : Sem (Array (Nat × Nat))).run Tryz.prog w = .ok #[(0, 1), (1, 1), (2, 64), (66, 64), (130, 8), (138, 8), (146, 4), (150, 1)] w := fun w => by simp [sizeOf3, sizeOf30, sizeOf39, sizeOf41, sizeOf42, sizeOf43]
theorem pl_62 : ∀ w, ((#[{ name := "s", type := 45, offset := 0, embedded := false, tag := "", pkgPath := "narrows/chain", byteOffset := 0 }, { name := "pool", type := 22, offset := 151, embedded := false, tag := "", pkgPath := "narrows/chain", byteOffset := 1224 }, { name := "events", type := 48, offset := 152, embedded := false, tag := "", pkgPath := "narrows/chain", byteOffset := 1248 }, { name := "made", type := 4, offset := 153, embedded := false, tag := "", pkgPath := "narrows/chain", byteOffset := 1272 }] : Array Field).mapM fun f => do pure (f.offset, ← sizeOf f.type) : Sem (Array (Nat × Nat))).run Tryz.prog w = .ok #[(0, 151), (151, 1), (152, 1), (153, 1)] w := fun w => by simp [sizeOf4, sizeOf22, sizeOf45, sizeOf48]
theorem pl_111 : ∀ w, ((#[{ name := "e", type := 63, offset := 0, embedded := false, tag := "", pkgPath := "narrows/escrow", byteOffset := 0 }] : Array Field).mapM fun f => do pure (f.offset, ← sizeOf f.type) : Sem (Array (Nat × Nat))).run Tryz.prog w = .ok #[(0, 1)] w := fun w => by simp [sizeOf63]
theorem one_36 (x : api_Tx) : oneAll (api_Tx.cs x) = true := rfl
theorem one_76 (x : escrow_Lock) : oneAll (escrow_Lock.cs x) = true := rfl
theorem onez_45 (x : escrow_State) {z0 : Value} (hz0 : z0.oneCell' = true) : oneAll (escrow_State.cs x z0) = true := by
  simp only [oneAll, escrow_State.cs, List.all_cons, List.all_nil, hz0]
  rfl
theorem eqv_32 (d : Nat) (x y : api_Inv) : EqV Tryz.prog (d + 2) 32 (Ag x.cs) (Ag y.cs) (decide (x = y)) :=
  EqV.cast (.struct (fs := [{ name := "User", type := 3, offset := 0, embedded := false, tag := "", pkgPath := "", byteOffset := 0 }, { name := "Root", type := 9, offset := 1, embedded := false, tag := "", pkgPath := "", byteOffset := 8 }, { name := "Router", type := 3, offset := 2, embedded := false, tag := "", pkgPath := "", byteOffset := 24 }, { name := "Send", type := 3, offset := 3, embedded := false, tag := "", pkgPath := "", byteOffset := 32 }, { name := "Recv", type := 3, offset := 4, embedded := false, tag := "", pkgPath := "", byteOffset := 40 }, { name := "To", type := 3, offset := 5, embedded := false, tag := "", pkgPath := "", byteOffset := 48 }, { name := "Id", type := 9, offset := 6, embedded := false, tag := "", pkgPath := "", byteOffset := 56 }]) (by kernel_rfl) (by kernel_rfl) (.cons rfl (.one isAgg3 rfl) (.one isAgg3 rfl) (EqV.int (by kernel_rfl)) (.cons rfl (.one isAgg9 rfl) (.one isAgg9 rfl) (EqV.str (by kernel_rfl)) (.cons rfl (.one isAgg3 rfl) (.one isAgg3 rfl) (EqV.int (by kernel_rfl)) (.cons rfl (.one isAgg3 rfl) (.one isAgg3 rfl) (EqV.int (by kernel_rfl)) (.cons rfl (.one isAgg3 rfl) (.one isAgg3 rfl) (EqV.int (by kernel_rfl)) (.cons rfl (.one isAgg3 rfl) (.one isAgg3 rfl) (EqV.int (by kernel_rfl)) (.cons rfl (.one isAgg9 rfl) (.one isAgg9 rfl) (EqV.str (by kernel_rfl)) .nil)))))))) (by cases x; cases y; rw [Bool.eq_iff_iff]; simp [api_Inv.mk.injEq, and_assoc])
theorem eq_32_eql (x y : api_Inv) : BinV Tryz.prog .eql 32 (Ag x.cs) (Ag y.cs) (Bo (decide (x = y))) := .eqv (by kernel_rfl) (eqv_32 9998 x y)
theorem eq_32_neq (x y : api_Inv) : BinV Tryz.prog .neq 32 (Ag x.cs) (Ag y.cs) (Bo (decide (x ≠ y))) := by
  have := BinV.neqv (P := Tryz.prog) (by kernel_rfl) (eqv_32 9998 x y); rw [← decide_not'] at this; exact this
theorem eqv_34 (d : Nat) (x y : api_Var) : EqV Tryz.prog (d + 3) 34 (Ag x.cs) (Ag y.cs) (decide (x = y)) :=
  EqV.cast (.struct (fs := [{ name := "Amount", type := 30, offset := 0, embedded := false, tag := "", pkgPath := "", byteOffset := 0 }, { name := "Expiry", type := 3, offset := 4, embedded := false, tag := "", pkgPath := "", byteOffset := 32 }]) (by kernel_rfl) (by kernel_rfl) (.cons rfl (.agg isAgg30 sizeOf30 (by kernel_rfl)) (.agg isAgg30 sizeOf30 (by kernel_rfl)) (eqv_30 _ x.Amount y.Amount) (.cons rfl (.one isAgg3 rfl) (.one isAgg3 rfl) (EqV.int (by kernel_rfl)) .nil))) (by cases x; cases y; rw [Bool.eq_iff_iff]; simp [api_Var.mk.injEq, and_assoc])
theorem eq_34_eql (x y : api_Var) : BinV Tryz.prog .eql 34 (Ag x.cs) (Ag y.cs) (Bo (decide (x = y))) := .eqv (by kernel_rfl) (eqv_34 9997 x y)
theorem eq_34_neq (x y : api_Var) : BinV Tryz.prog .neq 34 (Ag x.cs) (Ag y.cs) (Bo (decide (x ≠ y))) := by
  have := BinV.neqv (P := Tryz.prog) (by kernel_rfl) (eqv_34 9997 x y); rw [← decide_not'] at this; exact this
theorem eqv_36 (d : Nat) (x y : api_Tx) : EqV Tryz.prog (d + 4) 36 (Ag x.cs) (Ag y.cs) (decide (x = y)) :=
  EqV.cast (.struct (fs := [{ name := "From", type := 3, offset := 0, embedded := false, tag := "", pkgPath := "", byteOffset := 0 }, { name := "Nonce", type := 3, offset := 1, embedded := false, tag := "", pkgPath := "", byteOffset := 8 }, { name := "Kind", type := 3, offset := 2, embedded := false, tag := "", pkgPath := "", byteOffset := 16 }, { name := "Asset", type := 3, offset := 3, embedded := false, tag := "", pkgPath := "", byteOffset := 24 }, { name := "Amount", type := 30, offset := 4, embedded := false, tag := "", pkgPath := "", byteOffset := 32 }, { name := "Inv", type := 32, offset := 8, embedded := false, tag := "", pkgPath := "", byteOffset := 64 }, { name := "Var", type := 34, offset := 15, embedded := false, tag := "", pkgPath := "", byteOffset := 136 }, { name := "Fee", type := 30, offset := 20, embedded := false, tag := "", pkgPath := "", byteOffset := 176 }, { name := "Sig", type := 9, offset := 24, embedded := false, tag := "", pkgPath := "", byteOffset := 208 }]) (by kernel_rfl) (by kernel_rfl) (.cons rfl (.one isAgg3 rfl) (.one isAgg3 rfl) (EqV.int (by kernel_rfl)) (.cons rfl (.one isAgg3 rfl) (.one isAgg3 rfl) (EqV.int (by kernel_rfl)) (.cons rfl (.one isAgg3 rfl) (.one isAgg3 rfl) (EqV.int (by kernel_rfl)) (.cons rfl (.one isAgg3 rfl) (.one isAgg3 rfl) (EqV.int (by kernel_rfl)) (.cons rfl (.agg isAgg30 sizeOf30 (by kernel_rfl)) (.agg isAgg30 sizeOf30 (by kernel_rfl)) (eqv_30 _ x.Amount y.Amount) (.cons rfl (.agg isAgg32 sizeOf32 (by kernel_rfl)) (.agg isAgg32 sizeOf32 (by kernel_rfl)) (eqv_32 _ x.Inv y.Inv) (.cons rfl (.agg isAgg34 sizeOf34 (by kernel_rfl)) (.agg isAgg34 sizeOf34 (by kernel_rfl)) (eqv_34 _ x.Var y.Var) (.cons rfl (.agg isAgg30 sizeOf30 (by kernel_rfl)) (.agg isAgg30 sizeOf30 (by kernel_rfl)) (eqv_30 _ x.Fee y.Fee) (.cons rfl (.one isAgg9 rfl) (.one isAgg9 rfl) (EqV.str (by kernel_rfl)) .nil)))))))))) (by cases x; cases y; rw [Bool.eq_iff_iff]; simp [api_Tx.mk.injEq, and_assoc])
theorem eq_36_eql (x y : api_Tx) : BinV Tryz.prog .eql 36 (Ag x.cs) (Ag y.cs) (Bo (decide (x = y))) := .eqv (by kernel_rfl) (eqv_36 9996 x y)
theorem eq_36_neq (x y : api_Tx) : BinV Tryz.prog .neq 36 (Ag x.cs) (Ag y.cs) (Bo (decide (x ≠ y))) := by
  have := BinV.neqv (P := Tryz.prog) (by kernel_rfl) (eqv_36 9996 x y); rw [← decide_not'] at this; exact this
noncomputable def escrow_Genesis (a0 : Int) (a1 : Int) : escrow_State :=
  (⟨if 1 < (if 0 > a0 then 0 else a0) then 1 else if 0 > a0 then 0 else a0, if 1099511627776 < (if 0 > a1 then 0 else a1) then 1099511627776 else if 0 > a1 then 0 else a1, (purse_Even 1000), ⟨⟨⟨0, 0, 0, 0⟩, ⟨0, 0, 0, 0⟩⟩, ⟨⟨0, 0, 0, 0⟩, ⟨0, 0, 0, 0⟩⟩, ⟨⟨0, 0, 0, 0⟩, ⟨0, 0, 0, 0⟩⟩, ⟨⟨0, 0, 0, 0⟩, ⟨0, 0, 0, 0⟩⟩, ⟨⟨0, 0, 0, 0⟩, ⟨0, 0, 0, 0⟩⟩, ⟨⟨0, 0, 0, 0⟩, ⟨0, 0, 0, 0⟩⟩, ⟨⟨0, 0, 0, 0⟩, ⟨0, 0, 0, 0⟩⟩, ⟨⟨0, 0, 0, 0⟩, ⟨0, 0, 0, 0⟩⟩⟩, ⟨0, 0, 0, 0, 0, 0, 0, 0⟩, ⟨⟨0, 0, 0, 0⟩, ⟨0, 0, 0, 0⟩⟩, ⟨0, 0, 0, 0⟩, []⟩ : escrow_State)
set_option maxRecDepth 20000 in
set_option maxHeartbeats 1000000 in
theorem S_escrow_Genesis (a0 : Int) (a1 : Int) (r : escrow_State) (h : escrow_Genesis a0 a1 = r) :
    SpecF Tryz.prog 23 [N a0, N a1] [] [] (fun z : Value => True) (fun z => Ag (escrow_State.cs r z)) (fun z M => lst 76 3 z (r.Locks.map escrow_Lock.cs) ::  M) (fun z M =>  M) := by
  refine .of func23 rfl ntmps23 rfl fun w0 D0 G0 => ?_
  unfold escrow_Genesis at h
  refine .seq ?_
  refine .reg rfl ?_
  refine .opx (X.alc (cs := (escrow_State.cs ⟨0, 0, ⟨⟨⟨0, 0, 0, 0⟩, ⟨0, 0, 0, 0⟩⟩, ⟨⟨0, 0, 0, 0⟩, ⟨0, 0, 0, 0⟩⟩, ⟨⟨0, 0, 0, 0⟩, ⟨0, 0, 0, 0⟩⟩, ⟨⟨0, 0, 0, 0⟩, ⟨0, 0, 0, 0⟩⟩, ⟨⟨0, 0, 0, 0⟩, ⟨0, 0, 0, 0⟩⟩, ⟨⟨0, 0, 0, 0⟩, ⟨0, 0, 0, 0⟩⟩, ⟨⟨0, 0, 0, 0⟩, ⟨0, 0, 0, 0⟩⟩, ⟨⟨0, 0, 0, 0⟩, ⟨0, 0, 0, 0⟩⟩⟩, ⟨⟨⟨0, 0, 0, 0⟩, ⟨0, 0, 0, 0⟩⟩, ⟨⟨0, 0, 0, 0⟩, ⟨0, 0, 0, 0⟩⟩, ⟨⟨0, 0, 0, 0⟩, ⟨0, 0, 0, 0⟩⟩, ⟨⟨0, 0, 0, 0⟩, ⟨0, 0, 0, 0⟩⟩, ⟨⟨0, 0, 0, 0⟩, ⟨0, 0, 0, 0⟩⟩, ⟨⟨0, 0, 0, 0⟩, ⟨0, 0, 0, 0⟩⟩, ⟨⟨0, 0, 0, 0⟩, ⟨0, 0, 0, 0⟩⟩, ⟨⟨0, 0, 0, 0⟩, ⟨0, 0, 0, 0⟩⟩⟩, ⟨0, 0, 0, 0, 0, 0, 0, 0⟩, ⟨⟨0, 0, 0, 0⟩, ⟨0, 0, 0, 0⟩⟩, ⟨0, 0, 0, 0⟩, []⟩ nilSl)) zeroValue45 rfl) rfl fun b1 => ?_
  refine .nil ?_
  refine .then ?_
  refine .seq ?_
  refine .reg rfl ?_
  refine .opp (P.mov .t1) rfl ?_
  refine .opp (P.max2 .t0 .k) rfl ?_
  refine .opp (P.min2 .t0 .k) rfl ?_
  refine .opp (P.mov .t2) rfl ?_
  refine .opp (P.max2 .t0 .k) rfl ?_
  refine .opp (P.min2 .t0 .k) rfl ?_
  refine .opg (G.call call41 (.cons .k .nil) (S_purse_Even 1000 _ rfl) .nil .nil (fun _ _ => rfl) (fun _ _ => rfl) rfl) rfl fun _ _ => ?_
  refine .opp (P.bld (v := Ag (escrow_State.cs ⟨if 1 < (if 0 > a0 then 0 else a0) then 1 else if 0 > a0 then 0 else a0, if 1099511627776 < (if 0 > a1 then 0 else a1) then 1099511627776 else if 0 > a1 then 0 else a1, (purse_Even 1000), ⟨⟨⟨0, 0, 0, 0⟩, ⟨0, 0, 0, 0⟩⟩, ⟨⟨0, 0, 0, 0⟩, ⟨0, 0, 0, 0⟩⟩, ⟨⟨0, 0, 0, 0⟩, ⟨0, 0, 0, 0⟩⟩, ⟨⟨0, 0, 0, 0⟩, ⟨0, 0, 0, 0⟩⟩, ⟨⟨0, 0, 0, 0⟩, ⟨0, 0, 0, 0⟩⟩, ⟨⟨0, 0, 0, 0⟩, ⟨0, 0, 0, 0⟩⟩, ⟨⟨0, 0, 0, 0⟩, ⟨0, 0, 0, 0⟩⟩, ⟨⟨0, 0, 0, 0⟩, ⟨0, 0, 0, 0⟩⟩⟩, ⟨0, 0, 0, 0, 0, 0, 0, 0⟩, ⟨⟨0, 0, 0, 0⟩, ⟨0, 0, 0, 0⟩⟩, ⟨0, 0, 0, 0⟩, []⟩ nilSl)) (.cons .t2 (.cons .t1 (.cons .t0 .nil))) (bld_run zeroValue45 runUnderlying45 pl_45 (by kernel_rfl))) rfl ?_
  refine .opg (G.str .t0 .g0 .k0 (.mk (cs' := (escrow_State.cs ⟨if 1 < (if 0 > a0 then 0 else a0) then 1 else if 0 > a0 then 0 else a0, if 1099511627776 < (if 0 > a1 then 0 else a1) then 1099511627776 else if 0 > a1 then 0 else a1, (purse_Even 1000), ⟨⟨⟨0, 0, 0, 0⟩, ⟨0, 0, 0, 0⟩⟩, ⟨⟨0, 0, 0, 0⟩, ⟨0, 0, 0, 0⟩⟩, ⟨⟨0, 0, 0, 0⟩, ⟨0, 0, 0, 0⟩⟩, ⟨⟨0, 0, 0, 0⟩, ⟨0, 0, 0, 0⟩⟩, ⟨⟨0, 0, 0, 0⟩, ⟨0, 0, 0, 0⟩⟩, ⟨⟨0, 0, 0, 0⟩, ⟨0, 0, 0, 0⟩⟩, ⟨⟨0, 0, 0, 0⟩, ⟨0, 0, 0, 0⟩⟩, ⟨⟨0, 0, 0, 0⟩, ⟨0, 0, 0, 0⟩⟩⟩, ⟨0, 0, 0, 0, 0, 0, 0, 0⟩, ⟨⟨0, 0, 0, 0⟩, ⟨0, 0, 0, 0⟩⟩, ⟨0, 0, 0, 0⟩, []⟩ nilSl)) sizeOf45 rfl (onez_45 _ rfl) rfl rfl)) rfl fun _ _ => ?_
  refine .nil ?_
  refine .then ?_
  refine .ret ?_
  subst h
  refine .lnil 76 3 ?_
  exact .finw nilSl (.r1 rfl (.cell .g0 .k1 (.agg isAgg45 sizeOf45 rfl rfl))) trivial (Ls.of (.cons .k0 .nil)) .nil
attribute [irreducible] escrow_Genesis
noncomputable def chain_New (a0 : Int) (a1 : Int) : chain_Chain :=
  (⟨(escrow_Genesis a0 a1), [], [], true⟩ : chain_Chain)
set_option maxRecDepth 20000 in
set_option maxHeartbeats 1000000 in
theorem S_chain_New (a0 : Int) (a1 : Int) (r : chain_Chain) (h : chain_New a0 a1 = r) :
    SpecF Tryz.prog 7 [N a0, N a1] [] [] (fun z : Nat × Value × Value × Value => True) (fun z => pt z.1 0) (fun z M => blk z.1 62 (chain_Chain.cs r z.2.1 z.2.2.1 z.2.2.2) :: lst 76 3 z.2.1 (r.s.Locks.map escrow_Lock.cs) :: lst 36 25 z.2.2.1 (r.pool.map api_Tx.cs) :: lst 70 27 z.2.2.2 (r.events.map api_Event.cs) ::  M) (fun z M =>  M) := by
  refine .of func7 rfl ntmps7 rfl fun w0 D0 G0 => ?_
  unfold chain_New at h
  refine .seq ?_
  refine .reg rfl ?_
  refine .op0 (OpP.toV (P.asg .k)) rfl ?_
  refine .nil ?_
  refine .then ?_
  refine .seq ?_
  refine .reg rfl ?_
  refine .opp (P.mov .t0) rfl ?_
  refine .opp (P.mov .t1) rfl ?_
  refine .opg (G.call call23 (.cons .t1 (.cons .t0 .nil)) (S_escrow_Genesis a0 a1 _ rfl) .nil .nil (fun _ _ => rfl) (fun _ _ => rfl) rfl) rfl fun u1 _ => ?_
  refine .cell .k0 fun hv2 => ?_
  refine .opp (P.bld (v := Ag (chain_Chain.cs ⟨(escrow_Genesis a0 a1), [], [], true⟩ u1 nilSl nilSl)) (.cons .t0 (.cons .k .nil)) (bld_run zeroValue62 runUnderlying62 pl_62 (by obtain ⟨_, _, _, rfl⟩ := hv2; kernel_rfl))) rfl ?_
  refine .opx (X.box (cs := (chain_Chain.cs ⟨(escrow_Genesis a0 a1), [], [], true⟩ u1 nilSl nilSl)) .t0 rfl) rfl fun b3 => ?_
  refine .opp (P.asg .t0) rfl ?_
  refine .nil ?_
  refine .then ?_
  refine .ret ?_
  subst h
  refine .lnil 36 25 ?_
  refine .lnil 70 27 ?_
  exact .finw ⟨b3, u1, nilSl, nilSl⟩ (.r1 rfl (.tmp .g0)) trivial (Ls.of (.cons .k2 (.cons .k2 (.cons .k1 (.cons .k0 .nil))))) .nil
attribute [irreducible] chain_New
noncomputable def chain_Chain_is (a0 : chain_Chain) : Bool :=
  a0.made
set_option maxRecDepth 20000 in
set_option maxHeartbeats 1000000 in
theorem S_chain_Chain_is (b00 : Nat) (a0 : chain_Chain) (z00a z00b z00c : Value) (r : Bool) (h : chain_Chain_is a0 = r) :
    SpecF Tryz.prog 25 [pt b00 0] [blk b00 62 (chain_Chain.cs a0 z00a z00b z00c), lst 76 3 z00a (a0.s.Locks.map escrow_Lock.cs), lst 36 25 z00b (a0.pool.map api_Tx.cs), lst 70 27 z00c (a0.events.map api_Event.cs)] [] (fun z : Unit => True) (fun z => Bo r) (fun z M => blk b00 62 (chain_Chain.cs a0 z00a z00b z00c) :: lst 76 3 z00a (a0.s.Locks.map escrow_Lock.cs) :: lst 36 25 z00b (a0.pool.map api_Tx.cs) :: lst 70 27 z00c (a0.events.map api_Event.cs) ::  M) (fun z M =>  M) := by
  refine .of func25 rfl ntmps25 rfl fun w0 D0 G0 => ?_
  unfold chain_Chain_is at h
  refine .seq ?_
  refine .reg rfl ?_
  refine .op0 (OpP.toV (P.asg .k)) rfl ?_
  refine .nil ?_
  refine .then ?_
  refine .seq ?_
  refine .reg rfl ?_
  refine .opp (P.mov .g0) rfl ?_
  refine .opp (P.bin .t0 .k (.ptr_neq (e := 62) (by kernel_rfl))) rfl ?_
  refine .opp (P.mov .t0) rfl ?_
  refine .gyes rfl .g0 ?_
  refine .opp (P.mov .t1) rfl ?_
  refine .gyes rfl .g1 ?_
  refine .opp (P.nilc .t0) rfl ?_
  refine .gyes rfl .g1 ?_
  refine .opp (P.fa .t0 fa_62_3 rfl) rfl ?_
  refine .gyes rfl .g1 ?_
  refine .op (V.ld (v := Bo a0.made) .t0 .k0 (.one isAgg4 rfl)) rfl ?_
  refine .opp (P.pickT .t1 .t0) rfl ?_
  refine .opp (P.asg .t0) rfl ?_
  refine .nil ?_
  refine .then ?_
  refine .ret ?_
  subst h
  exact .finw () (.r1 rfl (.tmp .g0)) trivial (Ls.of (.cons .k0 (.cons .k0 (.cons .k0 (.cons .k0 .nil))))) .nil
attribute [irreducible] chain_Chain_is
noncomputable def txs_route (a0 : api_Tx) : Int :=
  if (decide ((a0.Amount : api_Wide) = (⟨0, 0, 0, 0⟩ : api_Wide))) = true then 36 else (thn (if (decide (a0.Kind = 1)) = true then (if (decide (a0.Inv.To < 0)) = true then true else (decide (a0.Inv.To ≥ 8))) else false) fun (y3 : Bool) => if y3 = true then 39 else (thn (if (decide (a0.Kind = 2)) = true then (if (decide (a0.Inv.Router < 2)) = true then true else (decide (a0.Inv.Router ≥ 4))) else false) fun (y9 : Bool) => if y9 = true then 39 else 0))
set_option maxRecDepth 20000 in
set_option maxHeartbeats 1000000 in
theorem S_txs_route (a0 : api_Tx) (r : Int) (h : txs_route a0 = r) :
    SpecF Tryz.prog 42 [Ag (api_Tx.cs a0)] [] [] (fun z : Unit => True) (fun z => N r) (fun z M =>  M) (fun z M =>  M) := by
  refine .of func42 rfl ntmps42 rfl fun w0 D0 G0 => ?_
  unfold txs_route at h
  refine .seq ?_
  refine .reg rfl ?_
  refine .opx (X.box (cs := (api_Tx.cs a0)) .t0 rfl) rfl fun b1 => ?_
  refine .op0 (OpP.toV (P.asg .k)) rfl ?_
  refine .nil ?_
  refine .then ?_
  refine .seq ?_
  refine .block ?_
  refine .seq ?_
  refine .reg rfl ?_
  refine .opp (P.fa .g0 fa_36_4 rfl) rfl ?_
  refine .op (V.ld (v := Ag (api_Wide.cs a0.Amount)) .t0 .k0 (.agg isAgg30 sizeOf30 rfl rfl)) rfl ?_
  refine .opp (P.bld (v := Ag (api_Wide.cs ⟨0, 0, 0, 0⟩)) .nil (bld_runA zeroValue30 runUnderlying30 sizeOf28 (by kernel_rfl))) rfl ?_
  refine .opp (P.bin .t1 .t0 (eq_30_eql _ _)) rfl ?_
  refine .opp (P.asg .t0) rfl ?_
  refine .nil ?_
  refine .then ?_
  refine .cond .t0 (fun c2 => ?_) (fun c2 => ?_)
  · rw [if_pos c2] at h
    refine .seq ?_
    refine .reg rfl ?_
    refine .opp (P.asg .k) rfl ?_
    refine .nil ?_
    refine .then ?_
    refine .ret ?_
    refine .inr ?_
    refine .thr ?_
    subst h
    exact .finw () (.r1 rfl (.tmp .g0)) trivial (Ls.of .nil) .nil
  · rw [if_neg (ne_true_of_eq_false c2)] at h
    obtain ⟨y3, hj5, h⟩ := thn_eq h
    refine .cutx (γ := Unit) (E1 := fun z4 => [(8, Bo y3), (1, pt b1 0)]) (L1 := fun z4 => [blk b1 36 (api_Tx.cs a0)]) (R1 := fun z4 => []) ?_ (fun z4 => ?_)
    · clear h
      refine .reg rfl ?_
      refine .opp (P.fa .g0 fa_36_2 rfl) rfl ?_
      refine .op (V.ld (v := N a0.Kind) .t0 .k0 (.one isAgg3 rfl)) rfl ?_
      refine .opp (P.bin .t0 .k .eql) rfl ?_
      refine .opp (P.mov .t0) rfl ?_
      refine .split .k0 (fun c6 => ?_) (fun c6 => ?_)
      · rw [if_pos c6] at hj5
        refine .gyes rfl .g0 ?_
        refine .opp (P.fa .g1 fa_36_5 rfl) rfl ?_
        refine .gyes rfl .g1 ?_
        refine .opp (P.fa .t0 fa_32_5 rfl) rfl ?_
        refine .gyes rfl .g1 ?_
        refine .op (V.ld (v := N a0.Inv.To) .t0 .k0 (.one isAgg3 rfl)) rfl ?_
        refine .gyes rfl .g1 ?_
        refine .opp (P.bin .t0 .k .lss) rfl ?_
        refine .gyes rfl .g1 ?_
        refine .opp (P.mov .t0) rfl ?_
        refine .split .k0 (fun c7 => ?_) (fun c7 => ?_)
        · rw [if_pos c7] at hj5
          refine .gno rfl .g0 rfl rfl ?_
          refine .gno rfl .g0 rfl rfl ?_
          refine .gno rfl .g0 rfl rfl ?_
          refine .gno rfl .g0 rfl rfl ?_
          refine .gyes rfl .g1 ?_
          refine .opp (P.pickT .t0 .k) rfl ?_
          refine .opp (P.pickT .t1 .t0) rfl ?_
          refine .opp (P.asg .t0) rfl ?_
          refine .nil ?_
          subst hj5
          exact .stj () (.cons Mm.m0 (.cons Mm.m1 .nil)) (.of (.cons .k0 .nil)) .nil
        · rw [if_neg (ne_true_of_eq_false c7)] at hj5
          refine .gyes rfl .g0 ?_
          refine .opp (P.fa .g2 fa_36_5 rfl) rfl ?_
          refine .gyes rfl .g1 ?_
          refine .opp (P.fa .t0 fa_32_5 rfl) rfl ?_
          refine .gyes rfl .g1 ?_
          refine .op (V.ld (v := N a0.Inv.To) .t0 .k0 (.one isAgg3 rfl)) rfl ?_
          refine .gyes rfl .g1 ?_
          refine .opp (P.bin .t0 .k .geq) rfl ?_
          refine .gyes rfl .g2 ?_
          refine .opp (P.pickF .t1 .t0) rfl ?_
          refine .opp (P.pickT .t1 .t0) rfl ?_
          refine .opp (P.asg .t0) rfl ?_
          refine .nil ?_
          subst hj5
          exact .stj () (.cons Mm.m0 (.cons Mm.m1 .nil)) (.of (.cons .k0 .nil)) .nil
      · rw [if_neg (ne_true_of_eq_false c6)] at hj5
        refine .gno rfl .g0 rfl rfl ?_
        refine .gno rfl .g0 rfl rfl ?_
        refine .gno rfl .g0 rfl rfl ?_
        refine .gno rfl .g0 rfl rfl ?_
        refine .gwu (.g rfl rfl .g0 rfl) rfl ?_
        refine .gw (.un rfl rfl .g0) rfl ?_
        refine .gw (.un rfl rfl .g0) rfl ?_
        refine .gw (.un rfl rfl .g0) rfl ?_
        refine .gw (.un rfl rfl .g0) rfl ?_
        refine .gno rfl .g1 rfl rfl ?_
        refine .opp (P.pickF .t1 .k) rfl ?_
        refine .opp (P.asg .t0) rfl ?_
        refine .nil ?_
        subst hj5
        exact .stj () (.cons Mm.m0 (.cons Mm.m2 .nil)) (.of (.cons .k0 .nil)) .nil
    · clear hj5
      refine .cond .t0 (fun c8 => ?_) (fun c8 => ?_)
      · rw [if_pos c8] at h
        refine .seq ?_
        refine .reg rfl ?_
        refine .opp (P.asg .k) rfl ?_
        refine .nil ?_
        refine .then ?_
        refine .ret ?_
        refine .inr ?_
        refine .thr ?_
        subst h
        exact .finw () (.r1 rfl (.tmp .g0)) trivial (Ls.of .nil) .nil
      · rw [if_neg (ne_true_of_eq_false c8)] at h
        obtain ⟨y9, hj11, h⟩ := thn_eq h
        refine .cutx (γ := Unit) (E1 := fun z10 => [(24, Bo y9)]) (L1 := fun z10 => []) (R1 := fun z10 => []) ?_ (fun z10 => ?_)
        · clear h
          refine .reg rfl ?_
          refine .opp (P.fa .g0 fa_36_2 rfl) rfl ?_
          refine .op (V.ld (v := N a0.Kind) .t0 .k0 (.one isAgg3 rfl)) rfl ?_
          refine .opp (P.bin .t0 .k .eql) rfl ?_
          refine .opp (P.mov .t0) rfl ?_
          refine .split .k0 (fun c12 => ?_) (fun c12 => ?_)
          · rw [if_pos c12] at hj11
            refine .gyes rfl .g0 ?_
            refine .opp (P.fa .g1 fa_36_5 rfl) rfl ?_
            refine .gyes rfl .g1 ?_
            refine .opp (P.fa .t0 fa_32_2 rfl) rfl ?_
            refine .gyes rfl .g1 ?_
            refine .op (V.ld (v := N a0.Inv.Router) .t0 .k0 (.one isAgg3 rfl)) rfl ?_
            refine .gyes rfl .g1 ?_
            refine .opp (P.bin .t0 .k .lss) rfl ?_
            refine .gyes rfl .g1 ?_
            refine .opp (P.mov .t0) rfl ?_
            refine .split .k0 (fun c13 => ?_) (fun c13 => ?_)
            · rw [if_pos c13] at hj11
              refine .gno rfl .g0 rfl rfl ?_
              refine .gno rfl .g0 rfl rfl ?_
              refine .gno rfl .g0 rfl rfl ?_
              refine .gno rfl .g0 rfl rfl ?_
              refine .gyes rfl .g1 ?_
              refine .opp (P.pickT .t0 .k) rfl ?_
              refine .opp (P.pickT .t1 .t0) rfl ?_
              refine .opp (P.asg .t0) rfl ?_
              refine .nil ?_
              subst hj11
              exact .stj () (.cons Mm.m0 .nil) (.of .nil) .nil
            · rw [if_neg (ne_true_of_eq_false c13)] at hj11
              refine .gyes rfl .g0 ?_
              refine .opp (P.fa .t2 fa_36_5 rfl) rfl ?_
              refine .gyes rfl .g1 ?_
              refine .opp (P.fa .t0 fa_32_2 rfl) rfl ?_
              refine .gyes rfl .g1 ?_
              refine .op (V.ld (v := N a0.Inv.Router) .t0 .k0 (.one isAgg3 rfl)) rfl ?_
              refine .gyes rfl .g1 ?_
              refine .opp (P.bin .t0 .k .geq) rfl ?_
              refine .gyes rfl .g2 ?_
              refine .opp (P.pickF .t1 .t0) rfl ?_
              refine .opp (P.pickT .t1 .t0) rfl ?_
              refine .opp (P.asg .t0) rfl ?_
              refine .nil ?_
              subst hj11
              exact .stj () (.cons Mm.m0 .nil) (.of .nil) .nil
          · rw [if_neg (ne_true_of_eq_false c12)] at hj11
            refine .gno rfl .g0 rfl rfl ?_
            refine .gno rfl .g0 rfl rfl ?_
            refine .gno rfl .g0 rfl rfl ?_
            refine .gno rfl .g0 rfl rfl ?_
            refine .gwu (.g rfl rfl .g0 rfl) rfl ?_
            refine .gw (.un rfl rfl .g0) rfl ?_
            refine .gw (.un rfl rfl .g0) rfl ?_
            refine .gw (.un rfl rfl .g0) rfl ?_
            refine .gw (.un rfl rfl .g0) rfl ?_
            refine .gno rfl .g1 rfl rfl ?_
            refine .opp (P.pickF .t1 .k) rfl ?_
            refine .opp (P.asg .t0) rfl ?_
            refine .nil ?_
            subst hj11
            exact .stj () (.cons Mm.m0 .nil) (.of .nil) .nil
        · clear hj11
          refine .cond .t0 (fun c14 => ?_) (fun c14 => ?_)
          · rw [if_pos c14] at h
            refine .seq ?_
            refine .reg rfl ?_
            refine .opp (P.asg .k) rfl ?_
            refine .nil ?_
            refine .then ?_
            refine .ret ?_
            refine .inr ?_
            refine .thr ?_
            subst h
            exact .finw () (.r1 rfl (.tmp .g0)) trivial (Ls.of .nil) .nil
          · rw [if_neg (ne_true_of_eq_false c14)] at h
            refine .skip ?_
            refine .inn ?_
            refine .then ?_
            refine .seq ?_
            refine .reg rfl ?_
            refine .opp (P.asg .k) rfl ?_
            refine .nil ?_
            refine .then ?_
            refine .ret ?_
            subst h
            exact .finw () (.r1 rfl (.tmp .g0)) trivial (Ls.of .nil) .nil
attribute [irreducible] txs_route
noncomputable def deal_in (a0 : Int) (a1 : Int) (a2 : Int) : Bool :=
  thn (if (decide (a0 ≥ a1)) = true then (decide (a0 ≤ a2)) else false) fun (y1 : Bool) => y1
set_option maxRecDepth 20000 in
set_option maxHeartbeats 1000000 in
theorem S_deal_in (a0 : Int) (a1 : Int) (a2 : Int) (r : Bool) (h : deal_in a0 a1 a2 = r) :
    SpecF Tryz.prog 54 [N a0, N a1, N a2] [] [] (fun z : Unit => True) (fun z => Bo r) (fun z M =>  M) (fun z M =>  M) := by
  refine .of func54 rfl ntmps54 rfl fun w0 D0 G0 => ?_
  unfold deal_in at h
  refine .seq ?_
  refine .reg rfl ?_
  refine .op0 (OpP.toV (P.asg .k)) rfl ?_
  refine .nil ?_
  refine .then ?_
  obtain ⟨y1, hj3, h⟩ := thn_eq h
  refine .cutx (γ := Unit) (E1 := fun z2 => [(6, Bo y1)]) (L1 := fun z2 => []) (R1 := fun z2 => []) ?_ (fun z2 => ?_)
  · clear h
    refine .reg rfl ?_
    refine .opp (P.mov .g0) rfl ?_
    refine .opp (P.mov .t2) rfl ?_
    refine .opp (P.bin .t1 .t0 .geq) rfl ?_
    refine .opp (P.mov .t0) rfl ?_
    refine .split .k0 (fun c4 => ?_) (fun c4 => ?_)
    · rw [if_pos c4] at hj3
      refine .gyes rfl .g0 ?_
      refine .opp (P.mov .t1) rfl ?_
      refine .gyes rfl .g1 ?_
      refine .opp (P.mov .t2) rfl ?_
      refine .gyes rfl .g2 ?_
      refine .opp (P.bin .t1 .t0 .leq) rfl ?_
      refine .opp (P.pickT .t1 .t0) rfl ?_
      refine .opp (P.asg .t0) rfl ?_
      refine .nil ?_
      subst hj3
      exact .stj () (.cons Mm.m0 .nil) (.of .nil) .nil
    · rw [if_neg (ne_true_of_eq_false c4)] at hj3
      refine .gno rfl .g0 rfl rfl ?_
      refine .gno rfl .g0 rfl rfl ?_
      refine .gno rfl .g0 rfl rfl ?_
      refine .opp (P.pickF .t0 .k) rfl ?_
      refine .opp (P.asg .t0) rfl ?_
      refine .nil ?_
      subst hj3
      exact .stj () (.cons Mm.m0 .nil) (.of .nil) .nil
  · clear hj3
    refine .ret ?_
    subst h
    exact .finw () (.r1 rfl (.tmp .g0)) trivial (Ls.of .nil) .nil
attribute [irreducible] deal_in
noncomputable def deal_Check (a0 : api_Inv) : Int :=
  thn (if (deal_in a0.User 0 1) = true then (if (deal_in a0.Router 2 3) = true then (if (deal_in a0.Send 0 1) = true then (deal_in a0.Recv 0 1) else false) else false) else false) fun (y2 : Bool) => thn (if (!y2) = true then true else (if (!(deal_in a0.To 0 7)) = true then true else (if (decide ((a0.Root.size : Int) ≠ 8)) = true then true else (!(deal_in (a0.Id.size : Int) 1 16))))) fun (y8 : Bool) => if y8 = true then 39 else 0
set_option maxRecDepth 20000 in
set_option maxHeartbeats 1000000 in
theorem S_deal_Check (a0 : api_Inv) (r : Int) (h : deal_Check a0 = r) :
    SpecF Tryz.prog 43 [Ag (api_Inv.cs a0)] [] [] (fun z : Unit => True) (fun z => N r) (fun z M =>  M) (fun z M =>  M) := by
  refine .of func43 rfl ntmps43 rfl fun w0 D0 G0 => ?_
  unfold deal_Check at h
  refine .seq ?_
  refine .reg rfl ?_
  refine .opx (X.box (cs := (api_Inv.cs a0)) .t0 rfl) rfl fun b1 => ?_
  refine .op0 (OpP.toV (P.asg .k)) rfl ?_
  refine .nil ?_
  refine .then ?_
  obtain ⟨y2, hj4, h⟩ := thn_eq h
  refine .cutx (γ := Unit) (E1 := fun z3 => [(3, Bo y2), (1, pt b1 0)]) (L1 := fun z3 => [blk b1 32 (api_Inv.cs a0)]) (R1 := fun z3 => []) ?_ (fun z3 => ?_)
  · clear h
    refine .reg rfl ?_
    refine .opp (P.fa .g0 fa_32_0 rfl) rfl ?_
    refine .op (V.ld (v := N a0.User) .t0 .k0 (.one isAgg3 rfl)) rfl ?_
    refine .opg (G.call call54 (.cons .t0 (.cons .k (.cons .k .nil))) (S_deal_in a0.User 0 1 _ rfl) .nil .nil (fun _ _ => rfl) (fun _ _ => rfl) rfl) rfl fun _ _ => ?_
    refine .opp (P.mov .t0) rfl ?_
    refine .split .k0 (fun c5 => ?_) (fun c5 => ?_)
    · rw [if_pos c5] at hj4
      refine .gyes rfl .g0 ?_
      refine .opp (P.fa .g1 fa_32_2 rfl) rfl ?_
      refine .gyes rfl .g1 ?_
      refine .op (V.ld (v := N a0.Router) .t0 .k0 (.one isAgg3 rfl)) rfl ?_
      refine .gyes rfl .g1 ?_
      refine .opg (G.call call54 (.cons .t0 (.cons .k (.cons .k .nil))) (S_deal_in a0.Router 2 3 _ rfl) .nil .nil (fun _ _ => rfl) (fun _ _ => rfl) rfl) rfl fun _ _ => ?_
      refine .opp (P.pickT .t1 .t0) rfl ?_
      refine .opp (P.mov .t0) rfl ?_
      refine .split .k0 (fun c6 => ?_) (fun c6 => ?_)
      · rw [if_pos c6] at hj4
        refine .gyes rfl .g0 ?_
        refine .opp (P.fa .g1 fa_32_3 rfl) rfl ?_
        refine .gyes rfl .g1 ?_
        refine .op (V.ld (v := N a0.Send) .t0 .k0 (.one isAgg3 rfl)) rfl ?_
        refine .gyes rfl .g1 ?_
        refine .opg (G.call call54 (.cons .t0 (.cons .k (.cons .k .nil))) (S_deal_in a0.Send 0 1 _ rfl) .nil .nil (fun _ _ => rfl) (fun _ _ => rfl) rfl) rfl fun _ _ => ?_
        refine .opp (P.pickT .t1 .t0) rfl ?_
        refine .opp (P.mov .t0) rfl ?_
        refine .split .k0 (fun c7 => ?_) (fun c7 => ?_)
        · rw [if_pos c7] at hj4
          refine .gyes rfl .g0 ?_
          refine .opp (P.fa .g1 fa_32_4 rfl) rfl ?_
          refine .gyes rfl .g1 ?_
          refine .op (V.ld (v := N a0.Recv) .t0 .k0 (.one isAgg3 rfl)) rfl ?_
          refine .gyes rfl .g1 ?_
          refine .opg (G.call call54 (.cons .t0 (.cons .k (.cons .k .nil))) (S_deal_in a0.Recv 0 1 _ rfl) .nil .nil (fun _ _ => rfl) (fun _ _ => rfl) rfl) rfl fun _ _ => ?_
          refine .opp (P.pickT .t1 .t0) rfl ?_
          refine .opp (P.asg .t0) rfl ?_
          refine .nil ?_
          subst hj4
          exact .stj () (.cons Mm.m0 (.cons Mm.m1 .nil)) (.of (.cons .k0 .nil)) .nil
        · rw [if_neg (ne_true_of_eq_false c7)] at hj4
          refine .gno rfl .g0 rfl rfl ?_
          refine .gno rfl .g0 rfl rfl ?_
          refine .gno rfl .g0 rfl rfl ?_
          refine .opp (P.pickF .t0 .k) rfl ?_
          refine .opp (P.asg .t0) rfl ?_
          refine .nil ?_
          subst hj4
          exact .stj () (.cons Mm.m0 (.cons Mm.m1 .nil)) (.of (.cons .k0 .nil)) .nil
      · rw [if_neg (ne_true_of_eq_false c6)] at hj4
        refine .gno rfl .g0 rfl rfl ?_
        refine .gno rfl .g0 rfl rfl ?_
        refine .gno rfl .g0 rfl rfl ?_
        refine .opp (P.pickF .t0 .k) rfl ?_
        refine .opp (P.mov .t0) rfl ?_
        refine .gno rfl .g0 rfl rfl ?_
        refine .gno rfl .g0 rfl rfl ?_
        refine .gno rfl .g0 rfl rfl ?_
        refine .opp (P.pickF .t0 .k) rfl ?_
        refine .opp (P.asg .t0) rfl ?_
        refine .nil ?_
        subst hj4
        exact .stj () (.cons Mm.m0 (.cons Mm.m1 .nil)) (.of (.cons .k0 .nil)) .nil
    · rw [if_neg (ne_true_of_eq_false c5)] at hj4
      refine .gno rfl .g0 rfl rfl ?_
      refine .gno rfl .g0 rfl rfl ?_
      refine .gno rfl .g0 rfl rfl ?_
      refine .opp (P.pickF .t0 .k) rfl ?_
      refine .opp (P.mov .t0) rfl ?_
      refine .gno rfl .g0 rfl rfl ?_
      refine .gno rfl .g0 rfl rfl ?_
      refine .gno rfl .g0 rfl rfl ?_
      refine .opp (P.pickF .t0 .k) rfl ?_
      refine .opp (P.mov .t0) rfl ?_
      refine .gno rfl .g0 rfl rfl ?_
      refine .gno rfl .g0 rfl rfl ?_
      refine .gno rfl .g0 rfl rfl ?_
      refine .opp (P.pickF .t0 .k) rfl ?_
      refine .opp (P.asg .t0) rfl ?_
      refine .nil ?_
      subst hj4
      exact .stj () (.cons Mm.m0 (.cons Mm.m1 .nil)) (.of (.cons .k0 .nil)) .nil
  · clear hj4
    refine .seq ?_
    obtain ⟨y8, hj10, h⟩ := thn_eq h
    refine .cutx (γ := Unit) (E1 := fun z9 => [(42, Bo y8)]) (L1 := fun z9 => []) (R1 := fun z9 => []) ?_ (fun z9 => ?_)
    · clear h
      refine .reg rfl ?_
      refine .opp (P.mov .t0) rfl ?_
      refine .opp (P.not .t0) rfl ?_
      refine .opp (P.mov .t0) rfl ?_
      refine .split .k0 (fun c11 => ?_) (fun c11 => ?_)
      · rw [if_pos c11] at hj10
        refine .gno rfl .g0 rfl rfl ?_
        refine .gno rfl .g0 rfl rfl ?_
        refine .gno rfl .g0 rfl rfl ?_
        refine .gno rfl .g0 rfl rfl ?_
        refine .opp (P.pickT .t0 .k) rfl ?_
        refine .opp (P.mov .t0) rfl ?_
        refine .gno rfl .g0 rfl rfl ?_
        refine .gno rfl .g0 rfl rfl ?_
        refine .gno rfl .g0 rfl rfl ?_
        refine .gno rfl .g0 rfl rfl ?_
        refine .opp (P.pickT .t0 .k) rfl ?_
        refine .opp (P.mov .t0) rfl ?_
        refine .gno rfl .g0 rfl rfl ?_
        refine .gno rfl .g0 rfl rfl ?_
        refine .gno rfl .g0 rfl rfl ?_
        refine .gno rfl .g0 rfl rfl ?_
        refine .gno rfl .g0 rfl rfl ?_
        refine .opp (P.pickT .t0 .k) rfl ?_
        refine .nil ?_
        subst hj10
        exact .stj () (.cons Mm.m0 .nil) (.of .nil) .nil
      · rw [if_neg (ne_true_of_eq_false c11)] at hj10
        refine .gyes rfl .g0 ?_
        refine .opp (P.fa .g1 fa_32_5 rfl) rfl ?_
        refine .gyes rfl .g1 ?_
        refine .op (V.ld (v := N a0.To) .t0 .k0 (.one isAgg3 rfl)) rfl ?_
        refine .gyes rfl .g1 ?_
        refine .opg (G.call call54 (.cons .t0 (.cons .k (.cons .k .nil))) (S_deal_in a0.To 0 7 _ rfl) .nil .nil (fun _ _ => rfl) (fun _ _ => rfl) rfl) rfl fun _ _ => ?_
        refine .gyes rfl .g1 ?_
        refine .opp (P.not .t0) rfl ?_
        refine .opp (P.pickF .t1 .t0) rfl ?_
        refine .opp (P.mov .t0) rfl ?_
        refine .split .k0 (fun c12 => ?_) (fun c12 => ?_)
        · rw [if_pos c12] at hj10
          refine .gno rfl .g0 rfl rfl ?_
          refine .gno rfl .g0 rfl rfl ?_
          refine .gno rfl .g0 rfl rfl ?_
          refine .gno rfl .g0 rfl rfl ?_
          refine .opp (P.pickT .t0 .k) rfl ?_
          refine .opp (P.mov .t0) rfl ?_
          refine .gno rfl .g0 rfl rfl ?_
          refine .gno rfl .g0 rfl rfl ?_
          refine .gno rfl .g0 rfl rfl ?_
          refine .gno rfl .g0 rfl rfl ?_
          refine .gno rfl .g0 rfl rfl ?_
          refine .opp (P.pickT .t0 .k) rfl ?_
          refine .nil ?_
          subst hj10
          exact .stj () (.cons Mm.m0 .nil) (.of .nil) .nil
        · rw [if_neg (ne_true_of_eq_false c12)] at hj10
          refine .gyes rfl .g0 ?_
          refine .opp (P.fa .g1 fa_32_1 rfl) rfl ?_
          refine .gyes rfl .g1 ?_
          refine .op (V.ld (v := .string a0.Root) .t0 .k0 (.one isAgg9 rfl)) rfl ?_
          refine .gyes rfl .g1 ?_
          refine .opp (P.lens .t0 runUnderlying9) rfl ?_
          refine .gyes rfl .g1 ?_
          refine .opp (P.bin .t0 .k .neq) rfl ?_
          refine .opp (P.pickF .t1 .t0) rfl ?_
          refine .opp (P.mov .t0) rfl ?_
          refine .split .k0 (fun c13 => ?_) (fun c13 => ?_)
          · rw [if_pos c13] at hj10
            refine .gno rfl .g0 rfl rfl ?_
            refine .gno rfl .g0 rfl rfl ?_
            refine .gno rfl .g0 rfl rfl ?_
            refine .gno rfl .g0 rfl rfl ?_
            refine .gno rfl .g0 rfl rfl ?_
            refine .opp (P.pickT .t0 .k) rfl ?_
            refine .nil ?_
            subst hj10
            exact .stj () (.cons Mm.m0 .nil) (.of .nil) .nil
          · rw [if_neg (ne_true_of_eq_false c13)] at hj10
            refine .gyes rfl .g0 ?_
            refine .opp (P.fa .t1 fa_32_6 rfl) rfl ?_
            refine .gyes rfl .g1 ?_
            refine .op (V.ld (v := .string a0.Id) .t0 .k0 (.one isAgg9 rfl)) rfl ?_
            refine .gyes rfl .g1 ?_
            refine .opp (P.lens .t0 runUnderlying9) rfl ?_
            refine .gyes rfl .g1 ?_
            refine .opg (G.call call54 (.cons .t0 (.cons .k (.cons .k .nil))) (S_deal_in (a0.Id.size : Int) 1 16 _ rfl) .nil .nil (fun _ _ => rfl) (fun _ _ => rfl) rfl) rfl fun _ _ => ?_
            refine .gyes rfl .g1 ?_
            refine .opp (P.not .t0) rfl ?_
            refine .opp (P.pickF .t1 .t0) rfl ?_
            refine .nil ?_
            subst hj10
            exact .stj () (.cons Mm.m0 .nil) (.of .nil) .nil
    · clear hj10
      refine .cond .t0 (fun c14 => ?_) (fun c14 => ?_)
      · rw [if_pos c14] at h
        refine .seq ?_
        refine .reg rfl ?_
        refine .opp (P.asg .k) rfl ?_
        refine .nil ?_
        refine .then ?_
        refine .ret ?_
        refine .thr ?_
        subst h
        exact .finw () (.r1 rfl (.tmp .g0)) trivial (Ls.of .nil) .nil
      · rw [if_neg (ne_true_of_eq_false c14)] at h
        refine .skip ?_
        refine .then ?_
        refine .seq ?_
        refine .reg rfl ?_
        refine .opp (P.asg .k) rfl ?_
        refine .nil ?_
        refine .then ?_
        refine .ret ?_
        subst h
        exact .finw () (.r1 rfl (.tmp .g0)) trivial (Ls.of .nil) .nil
attribute [irreducible] deal_Check
noncomputable def deal_Sound (a0 : api_Var) : Int :=
  thn (if (decide ((a0.Amount : api_Wide) = (⟨0, 0, 0, 0⟩ : api_Wide))) = true then true else (!(deal_in a0.Expiry 0 1099511627776))) fun (y2 : Bool) => if y2 = true then 36 else 0
set_option maxRecDepth 20000 in
set_option maxHeartbeats 1000000 in
theorem S_deal_Sound (a0 : api_Var) (r : Int) (h : deal_Sound a0 = r) :
    SpecF Tryz.prog 44 [Ag (api_Var.cs a0)] [] [] (fun z : Unit => True) (fun z => N r) (fun z M =>  M) (fun z M =>  M) := by
  refine .of func44 rfl ntmps44 rfl fun w0 D0 G0 => ?_
  unfold deal_Sound at h
  refine .seq ?_
  refine .reg rfl ?_
  refine .opx (X.box (cs := (api_Var.cs a0)) .t0 rfl) rfl fun b1 => ?_
  refine .op0 (OpP.toV (P.asg .k)) rfl ?_
  refine .nil ?_
  refine .then ?_
  refine .seq ?_
  obtain ⟨y2, hj4, h⟩ := thn_eq h
  refine .cutx (γ := Unit) (E1 := fun z3 => [(12, Bo y2)]) (L1 := fun z3 => []) (R1 := fun z3 => []) ?_ (fun z3 => ?_)
  · clear h
    refine .reg rfl ?_
    refine .opp (P.fa .g0 fa_34_0 rfl) rfl ?_
    refine .op (V.ld (v := Ag (api_Wide.cs a0.Amount)) .t0 .k0 (.agg isAgg30 sizeOf30 rfl rfl)) rfl ?_
    refine .opp (P.bld (v := Ag (api_Wide.cs ⟨0, 0, 0, 0⟩)) .nil (bld_runA zeroValue30 runUnderlying30 sizeOf28 (by kernel_rfl))) rfl ?_
    refine .opp (P.bin .t1 .t0 (eq_30_eql _ _)) rfl ?_
    refine .opp (P.mov .t0) rfl ?_
    refine .split .k0 (fun c5 => ?_) (fun c5 => ?_)
    · rw [if_pos c5] at hj4
      refine .gno rfl .g0 rfl rfl ?_
      refine .gno rfl .g0 rfl rfl ?_
      refine .gno rfl .g0 rfl rfl ?_
      refine .gno rfl .g0 rfl rfl ?_
      refine .opp (P.pickT .t0 .k) rfl ?_
      refine .nil ?_
      subst hj4
      exact .stj () (.cons Mm.m0 .nil) (.of .nil) .nil
    · rw [if_neg (ne_true_of_eq_false c5)] at hj4
      refine .gyes rfl .g0 ?_
      refine .opp (P.fa .t1 fa_34_1 rfl) rfl ?_
      refine .gyes rfl .g1 ?_
      refine .op (V.ld (v := N a0.Expiry) .t0 .k0 (.one isAgg3 rfl)) rfl ?_
      refine .gyes rfl .g1 ?_
      refine .opg (G.call call54 (.cons .t0 (.cons .k (.cons .k .nil))) (S_deal_in a0.Expiry 0 1099511627776 _ rfl) .nil .nil (fun _ _ => rfl) (fun _ _ => rfl) rfl) rfl fun _ _ => ?_
      refine .gyes rfl .g1 ?_
      refine .opp (P.not .t0) rfl ?_
      refine .opp (P.pickF .t1 .t0) rfl ?_
      refine .nil ?_
      subst hj4
      exact .stj () (.cons Mm.m0 .nil) (.of .nil) .nil
  · clear hj4
    refine .cond .t0 (fun c6 => ?_) (fun c6 => ?_)
    · rw [if_pos c6] at h
      refine .seq ?_
      refine .reg rfl ?_
      refine .opp (P.asg .k) rfl ?_
      refine .nil ?_
      refine .then ?_
      refine .ret ?_
      refine .thr ?_
      subst h
      exact .finw () (.r1 rfl (.tmp .g0)) trivial (Ls.of .nil) .nil
    · rw [if_neg (ne_true_of_eq_false c6)] at h
      refine .skip ?_
      refine .then ?_
      refine .seq ?_
      refine .reg rfl ?_
      refine .opp (P.asg .k) rfl ?_
      refine .nil ?_
      refine .then ?_
      refine .ret ?_
      subst h
      exact .finw () (.r1 rfl (.tmp .g0)) trivial (Ls.of .nil) .nil
attribute [irreducible] deal_Sound
noncomputable def txs_Check (a0 : api_Tx) : Int :=
  thn (if (decide (a0.Kind < 1)) = true then true else (decide (a0.Kind > 6))) fun (y2 : Bool) => if y2 = true then 12 else (thn (if (decide (a0.From < 0)) = true then true else (if (decide (a0.From ≥ 8)) = true then true else (if (decide (a0.Nonce < 0)) = true then true else (if (decide (a0.Nonce > 1099511627776)) = true then true else (if (decide (a0.Asset < 0)) = true then true else (decide (a0.Asset ≥ 2))))))) fun (y7 : Bool) => if y7 = true then 4 else (if (decide (a0.Kind < 4)) = true then (txs_route a0) else (if (decide ((deal_Check a0.Inv) ≠ 0)) = true then (deal_Check a0.Inv) else (if (decide ((deal_Sound a0.Var) ≠ 0)) = true then (deal_Sound a0.Var) else (if (decide ((a0.Sig.size : Int) > 1024)) = true then 5 else 0)))))
set_option maxRecDepth 20000 in
set_option maxHeartbeats 1000000 in
theorem S_txs_Check (a0 : api_Tx) (r : Int) (h : txs_Check a0 = r) :
    SpecF Tryz.prog 26 [Ag (api_Tx.cs a0)] [] [] (fun z : Unit => True) (fun z => N r) (fun z M =>  M) (fun z M =>  M) := by
  refine .of func26 rfl ntmps26 rfl fun w0 D0 G0 => ?_
  unfold txs_Check at h
  refine .seq ?_
  refine .reg rfl ?_
  refine .opx (X.box (cs := (api_Tx.cs a0)) .t0 rfl) rfl fun b1 => ?_
  refine .op0 (OpP.toV (P.asg .k)) rfl ?_
  refine .nil ?_
  refine .then ?_
  refine .seq ?_
  refine .block ?_
  obtain ⟨y2, hj4, h⟩ := thn_eq h
  refine .cutx (γ := Unit) (E1 := fun z3 => [(5, Bo y2), (1, pt b1 0)]) (L1 := fun z3 => [blk b1 36 (api_Tx.cs a0)]) (R1 := fun z3 => []) ?_ (fun z3 => ?_)
  · clear h
    refine .reg rfl ?_
    refine .opp (P.fa .g0 fa_36_2 rfl) rfl ?_
    refine .op (V.ld (v := N a0.Kind) .t0 .k0 (.one isAgg3 rfl)) rfl ?_
    refine .opp (P.bin .t0 .k .lss) rfl ?_
    refine .opp (P.mov .t0) rfl ?_
    refine .split .k0 (fun c5 => ?_) (fun c5 => ?_)
    · rw [if_pos c5] at hj4
      refine .gno rfl .g0 rfl rfl ?_
      refine .gno rfl .g0 rfl rfl ?_
      refine .gno rfl .g0 rfl rfl ?_
      refine .opp (P.pickT .t0 .k) rfl ?_
      refine .opp (P.asg .t0) rfl ?_
      refine .nil ?_
      subst hj4
      exact .stj () (.cons Mm.m0 (.cons Mm.m1 .nil)) (.of (.cons .k0 .nil)) .nil
    · rw [if_neg (ne_true_of_eq_false c5)] at hj4
      refine .gyes rfl .g0 ?_
      refine .opp (P.fa .g1 fa_36_2 rfl) rfl ?_
      refine .gyes rfl .g1 ?_
      refine .op (V.ld (v := N a0.Kind) .t0 .k0 (.one isAgg3 rfl)) rfl ?_
      refine .gyes rfl .g1 ?_
      refine .opp (P.bin .t0 .k .gtr) rfl ?_
      refine .opp (P.pickF .t1 .t0) rfl ?_
      refine .opp (P.asg .t0) rfl ?_
      refine .nil ?_
      subst hj4
      exact .stj () (.cons Mm.m0 (.cons Mm.m1 .nil)) (.of (.cons .k0 .nil)) .nil
  · clear hj4
    refine .cond .t0 (fun c6 => ?_) (fun c6 => ?_)
    · rw [if_pos c6] at h
      refine .seq ?_
      refine .reg rfl ?_
      refine .opp (P.asg .k) rfl ?_
      refine .nil ?_
      refine .then ?_
      refine .ret ?_
      refine .inr ?_
      refine .thr ?_
      subst h
      exact .finw () (.r1 rfl (.tmp .g0)) trivial (Ls.of .nil) .nil
    · rw [if_neg (ne_true_of_eq_false c6)] at h
      obtain ⟨y7, hj9, h⟩ := thn_eq h
      refine .cutx (γ := Unit) (E1 := fun z8 => [(14, Bo y7), (1, pt b1 0)]) (L1 := fun z8 => [blk b1 36 (api_Tx.cs a0)]) (R1 := fun z8 => []) ?_ (fun z8 => ?_)
      · clear h
        refine .reg rfl ?_
        refine .opp (P.fa .g0 fa_36_0 rfl) rfl ?_
        refine .op (V.ld (v := N a0.From) .t0 .k0 (.one isAgg3 rfl)) rfl ?_
        refine .opp (P.bin .t0 .k .lss) rfl ?_
        refine .opp (P.mov .t0) rfl ?_
        refine .split .k0 (fun c10 => ?_) (fun c10 => ?_)
        · rw [if_pos c10] at hj9
          refine .gno rfl .g0 rfl rfl ?_
          refine .gno rfl .g0 rfl rfl ?_
          refine .gno rfl .g0 rfl rfl ?_
          refine .opp (P.pickT .t0 .k) rfl ?_
          refine .opp (P.mov .t0) rfl ?_
          refine .gno rfl .g0 rfl rfl ?_
          refine .gno rfl .g0 rfl rfl ?_
          refine .gno rfl .g0 rfl rfl ?_
          refine .opp (P.pickT .t0 .k) rfl ?_
          refine .opp (P.mov .t0) rfl ?_
          refine .gno rfl .g0 rfl rfl ?_
          refine .gno rfl .g0 rfl rfl ?_
          refine .gno rfl .g0 rfl rfl ?_
          refine .opp (P.pickT .t0 .k) rfl ?_
          refine .opp (P.mov .t0) rfl ?_
          refine .gno rfl .g0 rfl rfl ?_
          refine .gno rfl .g0 rfl rfl ?_
          refine .gno rfl .g0 rfl rfl ?_
          refine .opp (P.pickT .t0 .k) rfl ?_
          refine .opp (P.mov .t0) rfl ?_
          refine .gno rfl .g0 rfl rfl ?_
          refine .gno rfl .g0 rfl rfl ?_
          refine .gno rfl .g0 rfl rfl ?_
          refine .opp (P.pickT .t0 .k) rfl ?_
          refine .opp (P.asg .t0) rfl ?_
          refine .nil ?_
          subst hj9
          exact .stj () (.cons Mm.m0 (.cons Mm.m1 .nil)) (.of (.cons .k0 .nil)) .nil
        · rw [if_neg (ne_true_of_eq_false c10)] at hj9
          refine .gyes rfl .g0 ?_
          refine .opp (P.fa .g1 fa_36_0 rfl) rfl ?_
          refine .gyes rfl .g1 ?_
          refine .op (V.ld (v := N a0.From) .t0 .k0 (.one isAgg3 rfl)) rfl ?_
          refine .gyes rfl .g1 ?_
          refine .opp (P.bin .t0 .k .geq) rfl ?_
          refine .opp (P.pickF .t1 .t0) rfl ?_
          refine .opp (P.mov .t0) rfl ?_
          refine .split .k0 (fun c11 => ?_) (fun c11 => ?_)
          · rw [if_pos c11] at hj9
            refine .gno rfl .g0 rfl rfl ?_
            refine .gno rfl .g0 rfl rfl ?_
            refine .gno rfl .g0 rfl rfl ?_
            refine .opp (P.pickT .t0 .k) rfl ?_
            refine .opp (P.mov .t0) rfl ?_
            refine .gno rfl .g0 rfl rfl ?_
            refine .gno rfl .g0 rfl rfl ?_
            refine .gno rfl .g0 rfl rfl ?_
            refine .opp (P.pickT .t0 .k) rfl ?_
            refine .opp (P.mov .t0) rfl ?_
            refine .gno rfl .g0 rfl rfl ?_
            refine .gno rfl .g0 rfl rfl ?_
            refine .gno rfl .g0 rfl rfl ?_
            refine .opp (P.pickT .t0 .k) rfl ?_
            refine .opp (P.mov .t0) rfl ?_
            refine .gno rfl .g0 rfl rfl ?_
            refine .gno rfl .g0 rfl rfl ?_
            refine .gno rfl .g0 rfl rfl ?_
            refine .opp (P.pickT .t0 .k) rfl ?_
            refine .opp (P.asg .t0) rfl ?_
            refine .nil ?_
            subst hj9
            exact .stj () (.cons Mm.m0 (.cons Mm.m1 .nil)) (.of (.cons .k0 .nil)) .nil
          · rw [if_neg (ne_true_of_eq_false c11)] at hj9
            refine .gyes rfl .g0 ?_
            refine .opp (P.fa .g1 fa_36_1 rfl) rfl ?_
            refine .gyes rfl .g1 ?_
            refine .op (V.ld (v := N a0.Nonce) .t0 .k0 (.one isAgg3 rfl)) rfl ?_
            refine .gyes rfl .g1 ?_
            refine .opp (P.bin .t0 .k .lss) rfl ?_
            refine .opp (P.pickF .t1 .t0) rfl ?_
            refine .opp (P.mov .t0) rfl ?_
            refine .split .k0 (fun c12 => ?_) (fun c12 => ?_)
            · rw [if_pos c12] at hj9
              refine .gno rfl .g0 rfl rfl ?_
              refine .gno rfl .g0 rfl rfl ?_
              refine .gno rfl .g0 rfl rfl ?_
              refine .opp (P.pickT .t0 .k) rfl ?_
              refine .opp (P.mov .t0) rfl ?_
              refine .gno rfl .g0 rfl rfl ?_
              refine .gno rfl .g0 rfl rfl ?_
              refine .gno rfl .g0 rfl rfl ?_
              refine .opp (P.pickT .t0 .k) rfl ?_
              refine .opp (P.mov .t0) rfl ?_
              refine .gno rfl .g0 rfl rfl ?_
              refine .gno rfl .g0 rfl rfl ?_
              refine .gno rfl .g0 rfl rfl ?_
              refine .opp (P.pickT .t0 .k) rfl ?_
              refine .opp (P.asg .t0) rfl ?_
              refine .nil ?_
              subst hj9
              exact .stj () (.cons Mm.m0 (.cons Mm.m1 .nil)) (.of (.cons .k0 .nil)) .nil
            · rw [if_neg (ne_true_of_eq_false c12)] at hj9
              refine .gyes rfl .g0 ?_
              refine .opp (P.fa .g1 fa_36_1 rfl) rfl ?_
              refine .gyes rfl .g1 ?_
              refine .op (V.ld (v := N a0.Nonce) .t0 .k0 (.one isAgg3 rfl)) rfl ?_
              refine .gyes rfl .g1 ?_
              refine .opp (P.bin .t0 .k .gtr) rfl ?_
              refine .opp (P.pickF .t1 .t0) rfl ?_
              refine .opp (P.mov .t0) rfl ?_
              refine .split .k0 (fun c13 => ?_) (fun c13 => ?_)
              · rw [if_pos c13] at hj9
                refine .gno rfl .g0 rfl rfl ?_
                refine .gno rfl .g0 rfl rfl ?_
                refine .gno rfl .g0 rfl rfl ?_
                refine .opp (P.pickT .t0 .k) rfl ?_
                refine .opp (P.mov .t0) rfl ?_
                refine .gno rfl .g0 rfl rfl ?_
                refine .gno rfl .g0 rfl rfl ?_
                refine .gno rfl .g0 rfl rfl ?_
                refine .opp (P.pickT .t0 .k) rfl ?_
                refine .opp (P.asg .t0) rfl ?_
                refine .nil ?_
                subst hj9
                exact .stj () (.cons Mm.m0 (.cons Mm.m1 .nil)) (.of (.cons .k0 .nil)) .nil
              · rw [if_neg (ne_true_of_eq_false c13)] at hj9
                refine .gyes rfl .g0 ?_
                refine .opp (P.fa .g1 fa_36_3 rfl) rfl ?_
                refine .gyes rfl .g1 ?_
                refine .op (V.ld (v := N a0.Asset) .t0 .k0 (.one isAgg3 rfl)) rfl ?_
                refine .gyes rfl .g1 ?_
                refine .opp (P.bin .t0 .k .lss) rfl ?_
                refine .opp (P.pickF .t1 .t0) rfl ?_
                refine .opp (P.mov .t0) rfl ?_
                refine .split .k0 (fun c14 => ?_) (fun c14 => ?_)
                · rw [if_pos c14] at hj9
                  refine .gno rfl .g0 rfl rfl ?_
                  refine .gno rfl .g0 rfl rfl ?_
                  refine .gno rfl .g0 rfl rfl ?_
                  refine .opp (P.pickT .t0 .k) rfl ?_
                  refine .opp (P.asg .t0) rfl ?_
                  refine .nil ?_
                  subst hj9
                  exact .stj () (.cons Mm.m0 (.cons Mm.m1 .nil)) (.of (.cons .k0 .nil)) .nil
                · rw [if_neg (ne_true_of_eq_false c14)] at hj9
                  refine .gyes rfl .g0 ?_
                  refine .opp (P.fa .g1 fa_36_3 rfl) rfl ?_
                  refine .gyes rfl .g1 ?_
                  refine .op (V.ld (v := N a0.Asset) .t0 .k0 (.one isAgg3 rfl)) rfl ?_
                  refine .gyes rfl .g1 ?_
                  refine .opp (P.bin .t0 .k .geq) rfl ?_
                  refine .opp (P.pickF .t1 .t0) rfl ?_
                  refine .opp (P.asg .t0) rfl ?_
                  refine .nil ?_
                  subst hj9
                  exact .stj () (.cons Mm.m0 (.cons Mm.m1 .nil)) (.of (.cons .k0 .nil)) .nil
      · clear hj9
        refine .cond .t0 (fun c15 => ?_) (fun c15 => ?_)
        · rw [if_pos c15] at h
          refine .seq ?_
          refine .reg rfl ?_
          refine .opp (P.asg .k) rfl ?_
          refine .nil ?_
          refine .then ?_
          refine .ret ?_
          refine .inr ?_
          refine .thr ?_
          subst h
          exact .finw () (.r1 rfl (.tmp .g0)) trivial (Ls.of .nil) .nil
        · rw [if_neg (ne_true_of_eq_false c15)] at h
          refine .seq ?_
          refine .reg rfl ?_
          refine .opp (P.fa .g0 fa_36_2 rfl) rfl ?_
          refine .op (V.ld (v := N a0.Kind) .t0 .k0 (.one isAgg3 rfl)) rfl ?_
          refine .opp (P.bin .t0 .k .lss) rfl ?_
          refine .opp (P.asg .t0) rfl ?_
          refine .nil ?_
          refine .then ?_
          refine .cond .t0 (fun c16 => ?_) (fun c16 => ?_)
          · rw [if_pos c16] at h
            refine .seq ?_
            refine .reg rfl ?_
            refine .op (V.ld (v := Ag (api_Tx.cs a0)) .t0 .k0 (.agg isAgg36 sizeOf36 rfl rfl)) rfl ?_
            refine .opg (G.call call42 (.cons .t0 .nil) (S_txs_route a0 _ rfl) .nil .nil (fun _ _ => rfl) (fun _ _ => rfl) rfl) rfl fun _ _ => ?_
            refine .opp (P.asg .t0) rfl ?_
            refine .nil ?_
            refine .then ?_
            refine .ret ?_
            refine .inr ?_
            refine .thr ?_
            subst h
            exact .finw () (.r1 rfl (.tmp .g0)) trivial (Ls.of .nil) .nil
          · rw [if_neg (ne_true_of_eq_false c16)] at h
            refine .skip ?_
            refine .inn ?_
            refine .then ?_
            refine .seq ?_
            refine .seq ?_
            refine .reg rfl ?_
            refine .opp (P.fa .g0 fa_36_5 rfl) rfl ?_
            refine .op (V.ld (v := Ag (api_Inv.cs a0.Inv)) .t0 .k0 (.agg isAgg32 sizeOf32 rfl rfl)) rfl ?_
            refine .opg (G.call call43 (.cons .t0 .nil) (S_deal_Check a0.Inv _ rfl) .nil .nil (fun _ _ => rfl) (fun _ _ => rfl) rfl) rfl fun _ _ => ?_
            refine .opp (P.asg .t0) rfl ?_
            refine .nil ?_
            refine .then ?_
            refine .seq ?_
            refine .reg rfl ?_
            refine .opp (P.mov .g0) rfl ?_
            refine .opp (P.bin .t0 .k .neq) rfl ?_
            refine .nil ?_
            refine .then ?_
            refine .cond .t0 (fun c17 => ?_) (fun c17 => ?_)
            · rw [if_pos c17] at h
              refine .seq ?_
              refine .reg rfl ?_
              refine .opp (P.mov .t0) rfl ?_
              refine .opp (P.asg .t0) rfl ?_
              refine .nil ?_
              refine .then ?_
              refine .ret ?_
              refine .thr ?_
              subst h
              exact .finw () (.r1 rfl (.tmp .g0)) trivial (Ls.of .nil) .nil
            · rw [if_neg (ne_true_of_eq_false c17)] at h
              refine .skip ?_
              refine .then ?_
              refine .seq ?_
              refine .seq ?_
              refine .reg rfl ?_
              refine .opp (P.fa .g1 fa_36_6 rfl) rfl ?_
              refine .op (V.ld (v := Ag (api_Var.cs a0.Var)) .t0 .k0 (.agg isAgg34 sizeOf34 rfl rfl)) rfl ?_
              refine .opg (G.call call44 (.cons .t0 .nil) (S_deal_Sound a0.Var _ rfl) .nil .nil (fun _ _ => rfl) (fun _ _ => rfl) rfl) rfl fun _ _ => ?_
              refine .opp (P.asg .t0) rfl ?_
              refine .nil ?_
              refine .then ?_
              refine .seq ?_
              refine .reg rfl ?_
              refine .opp (P.mov .g0) rfl ?_
              refine .opp (P.bin .t0 .k .neq) rfl ?_
              refine .nil ?_
              refine .then ?_
              refine .cond .t0 (fun c18 => ?_) (fun c18 => ?_)
              · rw [if_pos c18] at h
                refine .seq ?_
                refine .reg rfl ?_
                refine .opp (P.mov .t0) rfl ?_
                refine .opp (P.asg .t0) rfl ?_
                refine .nil ?_
                refine .then ?_
                refine .ret ?_
                refine .thr ?_
                subst h
                exact .finw () (.r1 rfl (.tmp .g0)) trivial (Ls.of .nil) .nil
              · rw [if_neg (ne_true_of_eq_false c18)] at h
                refine .skip ?_
                refine .then ?_
                refine .seq ?_
                refine .seq ?_
                refine .reg rfl ?_
                refine .opp (P.fa .t2 fa_36_8 rfl) rfl ?_
                refine .op (V.ld (v := .string a0.Sig) .t0 .k0 (.one isAgg9 rfl)) rfl ?_
                refine .opp (P.lens .t0 runUnderlying9) rfl ?_
                refine .opp (P.bin .t0 .k .gtr) rfl ?_
                refine .nil ?_
                refine .then ?_
                refine .cond .t0 (fun c19 => ?_) (fun c19 => ?_)
                · rw [if_pos c19] at h
                  refine .seq ?_
                  refine .reg rfl ?_
                  refine .opp (P.asg .k) rfl ?_
                  refine .nil ?_
                  refine .then ?_
                  refine .ret ?_
                  refine .thr ?_
                  subst h
                  exact .finw () (.r1 rfl (.tmp .g0)) trivial (Ls.of .nil) .nil
                · rw [if_neg (ne_true_of_eq_false c19)] at h
                  refine .skip ?_
                  refine .then ?_
                  refine .seq ?_
                  refine .reg rfl ?_
                  refine .opp (P.asg .k) rfl ?_
                  refine .nil ?_
                  refine .then ?_
                  refine .ret ?_
                  subst h
                  exact .finw () (.r1 rfl (.tmp .g0)) trivial (Ls.of .nil) .nil
attribute [irreducible] txs_Check
noncomputable def slices_Index_api_Tx (a0 : List api_Tx) (a1 : api_Tx) : Option (Int) :=
  Option.bind (loopR (fun (i2 : Nat) (e5 : api_Tx) (s3 : Unit) => if (decide ((a1 : api_Tx) = (e5 : api_Tx))) = true then (Option.map Ct.rt (some (i2 : Int))) else (some (.nx ()))) 0 a0 ()) fun o6 => Lo.on o6 fun (s3 : Unit) => some (-1)
set_option maxRecDepth 20000 in
set_option maxHeartbeats 1000000 in
theorem S_slices_Index_api_Tx (v00 : Value) (a0 : List api_Tx) (a1 : api_Tx) (r : Int) (h : slices_Index_api_Tx a0 a1 = some r) :
    SpecF Tryz.prog 45 [v00, Ag (api_Tx.cs a1)] [] [rows 25 v00 (a0.map api_Tx.cs)] (fun z : Unit => True) (fun z => N r) (fun z M =>  M) (fun z M =>  M) := by
  refine .of func45 rfl ntmps45 rfl fun w0 D0 G0 => ?_
  unfold slices_Index_api_Tx at h
  refine .seq ?_
  refine .reg rfl ?_
  refine .opx (X.box (cs := (api_Tx.cs a1)) .t1 rfl) rfl fun b1 => ?_
  refine .op0 (OpP.toV (P.asg .k)) rfl ?_
  refine .nil ?_
  refine .then ?_
  refine .seq ?_
  refine .seq ?_
  refine .reg rfl ?_
  refine .opp (P.mov .g1) rfl ?_
  refine .op (V.lnr (n := a0.length) .t0 Mm.m0 map_len runUnderlying22) rfl ?_
  refine .opp (P.mov .k) rfl ?_
  refine .nil ?_
  refine .then ?_
  refine .block ?_
  obtain ⟨o6, ho7, h⟩ := bnd_eq h
  refine .lenq Mm.m0 fun hl13 => ?_
  rw [map_len] at hl13
  refine .loopR (γ := Unit) (fun i2 (s3 : Unit) z4 => [(8, N (i2 : Int)), (7, N (a0.length : Int)), (3, pt b1 0), (0, v00)]) (fun (s3 : Unit) z4 => [blk b1 36 (api_Tx.cs a1)]) (fun (s3 : Unit) z4 => [rows 25 v00 (a0.map api_Tx.cs)]) () ho7 (.cons Mm.m0 (.cons Mm.m1 (.cons Mm.m2 (.cons Mm.m3 .nil)))) (.of (.cons .k0 .nil)) (.cons Mm.m0 .nil) (fun i2 s3 z4 hi14 hr10 => ?_)
  refine .seq ?_
  refine .reg rfl ?_
  refine .opp (P.bin (v := Bo (decide ((i2 : Int) < (a0.length : Nat)))) .g0 .g1 .lss) rfl ?_
  refine .nil ?_
  refine .then ?_
  refine .seq ?_
  refine .cond .t0 (fun c15 => ?_) (fun c15 => ?_)
  · obtain ⟨e5, hx12⟩ := get_of c15
    obtain ⟨ct11, hc8, hn9⟩ := loopR_at hx12 hr10
    refine .skip ?_
    refine .then ?_
    refine .seq ?_
    refine .block ?_
    refine .seq ?_
    refine .reg rfl ?_
    refine .opp (P.mov .g0) rfl ?_
    refine .opp (P.asg .t0) rfl ?_
    refine .nil ?_
    refine .then ?_
    refine .seq ?_
    refine .draw 6 (.on 1 .pu (.on 2 .pu (.on 3 .pu (.on 0 .ld (.on 4 .ld (.on 5 .pu .nl)))))) follows_mixed (.thn (.inb (.thn (.thn (.inb (.thn .body)))))) (by kernel_rfl) ?_
    refine .dpu rfl (.n rfl) (P.mov .g4) rfl rfl ?_
    refine .dpu rfl (.n rfl) (P.mov .g1) rfl rfl ?_
    refine .ixq Mm.m0 (map_get hx12) fun p16 q17 hq18 => ?_
    refine .dpu rfl (.n rfl) (P.ixi (i := i2) .t0 rfl .t0 hq18 runUnderlying22 sizeOf36) rfl rfl ?_
    refine .dld rfl (.n rfl) (V.ld (v := Ag (api_Tx.cs a1)) .g4 .k0 (.agg isAgg36 sizeOf36 rfl rfl)) (fun _ h => h) rfl rfl ?_
    refine .dld rfl (.n rfl) (V.ldx0 (u := Ag (api_Tx.cs e5)) .t1 hq18 Mm.m0 (map_get hx12) (.agg isAgg36 sizeOf36 rfl rfl)) (fun _ h => h) rfl rfl ?_
    refine .dpu rfl (.n rfl) (P.bin .t1 .t0 (eq_36_eql _ _)) rfl rfl ?_
    refine .dnil ?_
    refine .then ?_
    refine .cond .t0 (fun c19 => ?_) (fun c19 => ?_)
    · rw [if_pos c19] at hc8
      refine .seq ?_
      refine .reg rfl ?_
      refine .opp (P.mov .t0) rfl ?_
      refine .opp (P.asg .t0) rfl ?_
      refine .nil ?_
      refine .then ?_
      refine .ret ?_
      refine .inr ?_
      refine .thr ?_
      obtain ⟨x20, hx21, rfl⟩ := map_rt hc8
      obtain rfl := hn9
      obtain rfl := rt_on h
      refine .thr ?_
      refine .inr ?_
      refine .thr ?_
      cases hx21
      exact .finw () (.r1 rfl (.tmp .g0)) trivial (Ls.of .nil) .nil
    · rw [if_neg (ne_true_of_eq_false c19)] at hc8
      refine .skip ?_
      refine .inn ?_
      refine .then ?_
      refine .reg rfl ?_
      refine .opp (P.bin .g1 .k (.addc (inc_ok (lt_of_get hx12) hl13))) rfl ?_
      refine .drop .k2 ?_
      refine .opp (P.mov .t0) rfl ?_
      refine .nil ?_
      cases hc8
      exact .rdR () () hn9 (lt_of_get hx12) (.cons Mm.m0 (.cons Mm.m2 (.cons Mm.m3 (.cons Mm.m4 .nil)))) (.of (.cons .k0 .nil)) (.cons Mm.m0 .nil)
  · obtain rfl := loopR_end (le_of_not c15) hr10
    have h := dn_on h
    refine .exit ?_
    refine .thx ?_
    refine .thx ?_
    refine .inb ?_
    refine .then ?_
    refine .seq ?_
    refine .reg rfl ?_
    refine .opp (P.asg .k) rfl ?_
    refine .nil ?_
    refine .then ?_
    refine .ret ?_
    cases h
    exact .finw () (.r1 rfl (.tmp .g0)) trivial (Ls.of .nil) .nil
attribute [irreducible] slices_Index_api_Tx
noncomputable def slices_Contains_api_Tx (a0 : List api_Tx) (a1 : api_Tx) : Option (Bool) :=
  Option.bind (slices_Index_api_Tx a0 a1) fun r2 => some (decide (r2 ≥ 0))
set_option maxRecDepth 20000 in
set_option maxHeartbeats 1000000 in
theorem S_slices_Contains_api_Tx (v00 : Value) (a0 : List api_Tx) (a1 : api_Tx) (r : Bool) (h : slices_Contains_api_Tx a0 a1 = some r) :
    SpecF Tryz.prog 27 [v00, Ag (api_Tx.cs a1)] [] [rows 25 v00 (a0.map api_Tx.cs)] (fun z : Unit => True) (fun z => Bo r) (fun z M =>  M) (fun z M =>  M) := by
  refine .of func27 rfl ntmps27 rfl fun w0 D0 G0 => ?_
  unfold slices_Contains_api_Tx at h
  refine .seq ?_
  refine .reg rfl ?_
  refine .opx (X.box (cs := (api_Tx.cs a1)) .t1 rfl) rfl fun b1 => ?_
  refine .op0 (OpP.toV (P.asg .k)) rfl ?_
  refine .nil ?_
  refine .then ?_
  refine .seq ?_
  refine .reg rfl ?_
  refine .opp (P.mov .t1) rfl ?_
  refine .op (V.ld (v := Ag (api_Tx.cs a1)) .t1 .k0 (.agg isAgg36 sizeOf36 rfl rfl)) rfl ?_
  obtain ⟨r2, hr3, h⟩ := bnd_eq h
  refine .opg (G.call call45 (.cons .t1 (.cons .t0 .nil)) (S_slices_Index_api_Tx v00 a0 a1 r2 hr3) .nil (.cons Mm.m0 .nil) (fun _ _ => rfl) (fun _ _ => rfl) rfl) rfl fun _ _ => ?_
  refine .opp (P.bin .t0 .k .geq) rfl ?_
  refine .opp (P.asg .t0) rfl ?_
  refine .nil ?_
  refine .then ?_
  refine .ret ?_
  cases h
  exact .finw () (.r1 rfl (.tmp .g0)) trivial (Ls.of .nil) .nil
attribute [irreducible] slices_Contains_api_Tx
noncomputable def chain_Chain_Submit (a0 : chain_Chain) (a1 : api_Tx) : Option (Bool × chain_Chain) :=
  Option.bind (if (!(chain_Chain_is a0)) = true then (some true) else (if (decide ((txs_Check a1) ≠ 0)) = true then (some true) else (if (decide ((a0.pool.length : Int) ≥ 128)) = true then (some true) else (Option.bind (slices_Contains_api_Tx a0.pool a1) fun r8 => some r8)))) fun (y2 : Bool) => if y2 = true then (some (false, a0)) else (grd ((a0.pool.length + ([a1] : List api_Tx).length) * 224 ≤ 140737488355328) <| some ((true, (⟨a0.s, (a0.pool ++ ([a1] : List api_Tx)), a0.events, a0.made⟩ : chain_Chain))))
set_option maxRecDepth 20000 in
set_option maxHeartbeats 1000000 in
theorem S_chain_Chain_Submit (b00 : Nat) (a0 : chain_Chain) (z00a z00b z00c : Value) (a1 : api_Tx) (r : Bool × chain_Chain) (h : chain_Chain_Submit a0 a1 = some r) :
    SpecF Tryz.prog 8 [pt b00 0, Ag (api_Tx.cs a1)] [blk b00 62 (chain_Chain.cs a0 z00a z00b z00c), lst 76 3 z00a (a0.s.Locks.map escrow_Lock.cs), lst 36 25 z00b (a0.pool.map api_Tx.cs), lst 70 27 z00c (a0.events.map api_Event.cs)] [] (fun z : Value => True) (fun z => Bo r.1) (fun z M => blk b00 62 (chain_Chain.cs r.2 z00a z z00c) :: lst 76 3 z00a (r.2.s.Locks.map escrow_Lock.cs) :: lst 36 25 z (r.2.pool.map api_Tx.cs) :: lst 70 27 z00c (r.2.events.map api_Event.cs) ::  M) (fun z M =>  M) := by
  refine .of func8 rfl ntmps8 rfl fun w0 D0 G0 => ?_
  unfold chain_Chain_Submit at h
  refine .seq ?_
  refine .reg rfl ?_
  refine .opx (X.box (cs := (api_Tx.cs a1)) .t1 rfl) rfl fun b1 => ?_
  refine .op0 (OpP.toV (P.asg .k)) rfl ?_
  refine .nil ?_
  refine .then ?_
  refine .seq ?_
  obtain ⟨y2, hj4, h⟩ := bnd_eq h
  refine .cutx (γ := Unit) (E1 := fun z3 => [(28, Bo y2), (3, pt b1 0), (0, pt b00 0)]) (L1 := fun z3 => [blk b1 36 (api_Tx.cs a1), blk b00 62 (chain_Chain.cs a0 z00a z00b z00c), lst 76 3 z00a (a0.s.Locks.map escrow_Lock.cs), lst 36 25 z00b (a0.pool.map api_Tx.cs), lst 70 27 z00c (a0.events.map api_Event.cs)]) (R1 := fun z3 => []) ?_ (fun z3 => ?_)
  · clear h
    refine .draw 24 (.on 0 .pu (.on 1 .go (.on 2 .pu (.on 3 .pu (.on 4 .ld (.on 5 .go (.on 6 .pu (.on 7 .pu (.on 8 .pu (.on 9 .pu (.on 10 .pu (.on 11 .pu (.on 12 .ld (.on 13 .ld (.on 14 .pu (.on 15 .pu (.on 16 .pu (.on 17 .pu (.on 18 .pu (.on 19 .pu (.on 20 .ld (.on 21 .ld (.on 22 .go (.on 23 .pu .nl)))))))))))))))))))))))) follows_mixed (.thn (.thn .body)) (by kernel_rfl) ?_
    refine .dpu rfl (.n rfl) (P.mov .g1) rfl rfl ?_
    refine .dgo rfl (.n rfl) (G.call call25 (.cons .t0 .nil) (S_chain_Chain_is b00 a0 z00a z00b z00c _ rfl) (.cons .k1 (.cons .k1 (.cons .k1 (.cons .k1 .nil)))) .nil (fun _ _ => rfl) (fun _ _ => rfl) rfl) (.inr fun _ _ _ h => (h.imp (Ls.of (.cons .k4 (.cons .k0 (.cons .k0 (.cons .k0 (.cons .k0 .nil))))))).ro Rs.nil) fun _ _ => ?_
    refine .dpu rfl (.n rfl) (P.not .t0) rfl rfl ?_
    refine .dpu rfl (.n rfl) (P.mov .t0) rfl rfl ?_
    refine .split .k0 (fun c5 => ?_) (fun c5 => ?_)
    · rw [if_pos c5] at hj4
      refine .dskl rfl (.g rfl rfl .g0 rfl) (fun _ h => (h.imp (Ls.of (.cons .k4 (.cons .k0 (.cons .k0 (.cons .k0 (.cons .k0 .nil))))))).ro Rs.nil) rfl rfl ?_
      refine .dskg rfl (.g rfl rfl .g0 rfl) (.inr fun _ h => (h.imp (Ls.of (.cons .k4 (.cons .k0 (.cons .k0 (.cons .k0 (.cons .k0 .nil))))))).ro Rs.nil) rfl rfl ?_
      refine .dsk rfl (.g rfl rfl .g0 rfl) rfl rfl ?_
      refine .dpu rfl (.n rfl) (P.pickT .t0 .k) rfl rfl ?_
      refine .dpu rfl (.n rfl) (P.mov .t0) rfl rfl ?_
      refine .dsk rfl (.g rfl rfl .g0 rfl) rfl rfl ?_
      refine .dsk rfl (.g rfl rfl .g0 rfl) rfl rfl ?_
      refine .dsk rfl (.g rfl rfl .g0 rfl) rfl rfl ?_
      refine .dskl rfl (.g rfl rfl .g0 rfl) (fun _ h => (h.imp (Ls.of (.cons .k4 (.cons .k0 (.cons .k0 (.cons .k0 (.cons .k0 .nil))))))).ro Rs.nil) rfl rfl ?_
      refine .dskl rfl (.g rfl rfl .g0 rfl) (fun _ h => (h.imp (Ls.of (.cons .k4 (.cons .k0 (.cons .k0 (.cons .k0 (.cons .k0 .nil))))))).ro Rs.nil) rfl rfl ?_
      refine .dsk rfl (.g rfl rfl .g0 rfl) rfl rfl ?_
      refine .dpu rfl (.n rfl) (P.pickT .t0 .k) rfl rfl ?_
      refine .dpu rfl (.n rfl) (P.mov .t0) rfl rfl ?_
      refine .dsk rfl (.g rfl rfl .g0 rfl) rfl rfl ?_
      refine .dsk rfl (.g rfl rfl .g0 rfl) rfl rfl ?_
      refine .dsk rfl (.g rfl rfl .g0 rfl) rfl rfl ?_
      refine .dskl rfl (.g rfl rfl .g0 rfl) (fun _ h => (h.imp (Ls.of (.cons .k4 (.cons .k0 (.cons .k0 (.cons .k0 (.cons .k0 .nil))))))).ro Rs.nil) rfl rfl ?_
      refine .dskl rfl (.g rfl rfl .g0 rfl) (fun _ h => (h.imp (Ls.of (.cons .k4 (.cons .k0 (.cons .k0 (.cons .k0 (.cons .k0 .nil))))))).ro Rs.nil) rfl rfl ?_
      refine .dskg rfl (.g rfl rfl .g0 rfl) (.inr fun _ h => (h.imp (Ls.of (.cons .k4 (.cons .k0 (.cons .k0 (.cons .k0 (.cons .k0 .nil))))))).ro Rs.nil) rfl rfl ?_
      refine .dpu rfl (.n rfl) (P.pickT .t0 .k) rfl rfl ?_
      refine .dnil ?_
      cases hj4
      exact .stj () (.cons Mm.m0 (.cons Mm.m1 (.cons Mm.m2 .nil))) (.of (.cons .k4 (.cons .k0 (.cons .k0 (.cons .k0 (.cons .k0 .nil)))))) .nil
    · rw [if_neg (ne_true_of_eq_false c5)] at hj4
      refine .dld rfl (.g rfl rfl .g0 rfl) (V.ld (v := Ag (api_Tx.cs a1)) .g1 .k0 (.agg isAgg36 sizeOf36 rfl rfl)) (fun _ h => (h.imp (Ls.of (.cons .k4 (.cons .k0 (.cons .k0 (.cons .k0 (.cons .k0 .nil))))))).ro Rs.nil) rfl rfl ?_
      refine .dgo rfl (.g rfl rfl .g1 rfl) (G.call call26 (.cons .t0 .nil) (S_txs_Check a1 _ rfl) .nil .nil (fun _ _ => rfl) (fun _ _ => rfl) rfl) (.inr fun _ _ _ h => (h.imp (Ls.of (.cons .k4 (.cons .k0 (.cons .k0 (.cons .k0 (.cons .k0 .nil))))))).ro Rs.nil) fun _ _ => ?_
      refine .dpu rfl (.g rfl rfl .g1 rfl) (P.bin .t0 .k .neq) rfl rfl ?_
      refine .dpu rfl (.n rfl) (P.pickF .t1 .t0) rfl rfl ?_
      refine .dpu rfl (.n rfl) (P.mov .t0) rfl rfl ?_
      refine .split .k0 (fun c6 => ?_) (fun c6 => ?_)
      · rw [if_pos c6] at hj4
        refine .dsk rfl (.g rfl rfl .g0 rfl) rfl rfl ?_
        refine .dsk rfl (.g rfl rfl .g0 rfl) rfl rfl ?_
        refine .dsk rfl (.g rfl rfl .g0 rfl) rfl rfl ?_
        refine .dskl rfl (.g rfl rfl .g0 rfl) (fun _ h => (h.imp (Ls.of (.cons .k4 (.cons .k0 (.cons .k0 (.cons .k0 (.cons .k0 .nil))))))).ro Rs.nil) rfl rfl ?_
        refine .dskl rfl (.g rfl rfl .g0 rfl) (fun _ h => (h.imp (Ls.of (.cons .k4 (.cons .k0 (.cons .k0 (.cons .k0 (.cons .k0 .nil))))))).ro Rs.nil) rfl rfl ?_
        refine .dsk rfl (.g rfl rfl .g0 rfl) rfl rfl ?_
        refine .dpu rfl (.n rfl) (P.pickT .t0 .k) rfl rfl ?_
        refine .dpu rfl (.n rfl) (P.mov .t0) rfl rfl ?_
        refine .dsk rfl (.g rfl rfl .g0 rfl) rfl rfl ?_
        refine .dsk rfl (.g rfl rfl .g0 rfl) rfl rfl ?_
        refine .dsk rfl (.g rfl rfl .g0 rfl) rfl rfl ?_
        refine .dskl rfl (.g rfl rfl .g0 rfl) (fun _ h => (h.imp (Ls.of (.cons .k4 (.cons .k0 (.cons .k0 (.cons .k0 (.cons .k0 .nil))))))).ro Rs.nil) rfl rfl ?_
        refine .dskl rfl (.g rfl rfl .g0 rfl) (fun _ h => (h.imp (Ls.of (.cons .k4 (.cons .k0 (.cons .k0 (.cons .k0 (.cons .k0 .nil))))))).ro Rs.nil) rfl rfl ?_
        refine .dskg rfl (.g rfl rfl .g0 rfl) (.inr fun _ h => (h.imp (Ls.of (.cons .k4 (.cons .k0 (.cons .k0 (.cons .k0 (.cons .k0 .nil))))))).ro Rs.nil) rfl rfl ?_
        refine .dpu rfl (.n rfl) (P.pickT .t0 .k) rfl rfl ?_
        refine .dnil ?_
        cases hj4
        exact .stj () (.cons Mm.m0 (.cons Mm.m1 (.cons Mm.m2 .nil))) (.of (.cons .k4 (.cons .k0 (.cons .k0 (.cons .k0 (.cons .k0 .nil)))))) .nil
      · rw [if_neg (ne_true_of_eq_false c6)] at hj4
        refine .dpu rfl (.g rfl rfl .g0 rfl) (P.mov .g2) rfl rfl ?_
        refine .dpu rfl (.g rfl rfl .g1 rfl) (P.nilc .t0) rfl rfl ?_
        refine .dpu rfl (.g rfl rfl .g1 rfl) (P.fa .t0 fa_62_1 rfl) rfl rfl ?_
        refine .dld rfl (.g rfl rfl .g1 rfl) (V.ld (v := z00b) .t0 .k1 (.one isAgg22 rfl)) (fun _ h => (h.imp (Ls.of (.cons .k4 (.cons .k0 (.cons .k0 (.cons .k0 (.cons .k0 .nil))))))).ro Rs.nil) rfl rfl ?_
        refine .dld rfl (.g rfl rfl .g1 rfl) (V.lnl (n := a0.pool.length) .t0 .k3 map_len runUnderlying22) (fun _ h => (h.imp (Ls.of (.cons .k4 (.cons .k0 (.cons .k0 (.cons .k0 (.cons .k0 .nil))))))).ro Rs.nil) rfl rfl ?_
        refine .dpu rfl (.g rfl rfl .g1 rfl) (P.bin .t0 .k .geq) rfl rfl ?_
        refine .dpu rfl (.n rfl) (P.pickF .t1 .t0) rfl rfl ?_
        refine .dpu rfl (.n rfl) (P.mov .t0) rfl rfl ?_
        refine .split .k0 (fun c7 => ?_) (fun c7 => ?_)
        · rw [if_pos c7] at hj4
          refine .dsk rfl (.g rfl rfl .g0 rfl) rfl rfl ?_
          refine .dsk rfl (.g rfl rfl .g0 rfl) rfl rfl ?_
          refine .dsk rfl (.g rfl rfl .g0 rfl) rfl rfl ?_
          refine .dskl rfl (.g rfl rfl .g0 rfl) (fun _ h => (h.imp (Ls.of (.cons .k4 (.cons .k0 (.cons .k0 (.cons .k0 (.cons .k0 .nil))))))).ro Rs.nil) rfl rfl ?_
          refine .dskl rfl (.g rfl rfl .g0 rfl) (fun _ h => (h.imp (Ls.of (.cons .k4 (.cons .k0 (.cons .k0 (.cons .k0 (.cons .k0 .nil))))))).ro Rs.nil) rfl rfl ?_
          refine .dskg rfl (.g rfl rfl .g0 rfl) (.inr fun _ h => (h.imp (Ls.of (.cons .k4 (.cons .k0 (.cons .k0 (.cons .k0 (.cons .k0 .nil))))))).ro Rs.nil) rfl rfl ?_
          refine .dpu rfl (.n rfl) (P.pickT .t0 .k) rfl rfl ?_
          refine .dnil ?_
          cases hj4
          exact .stj () (.cons Mm.m0 (.cons Mm.m1 (.cons Mm.m2 .nil))) (.of (.cons .k4 (.cons .k0 (.cons .k0 (.cons .k0 (.cons .k0 .nil)))))) .nil
        · rw [if_neg (ne_true_of_eq_false c7)] at hj4
          refine .dpu rfl (.g rfl rfl .g0 rfl) (P.mov .g2) rfl rfl ?_
          refine .dpu rfl (.g rfl rfl .g1 rfl) (P.nilc .t0) rfl rfl ?_
          refine .dpu rfl (.g rfl rfl .g1 rfl) (P.fa .t0 fa_62_1 rfl) rfl rfl ?_
          refine .dld rfl (.g rfl rfl .g1 rfl) (V.ld (v := z00b) .t0 .k1 (.one isAgg22 rfl)) (fun _ h => (h.imp (Ls.of (.cons .k4 (.cons .k0 (.cons .k0 (.cons .k0 (.cons .k0 .nil))))))).ro Rs.nil) rfl rfl ?_
          refine .dld rfl (.g rfl rfl .g1 rfl) (V.ld (v := Ag (api_Tx.cs a1)) .g2 .k0 (.agg isAgg36 sizeOf36 rfl rfl)) (fun _ h => (h.imp (Ls.of (.cons .k4 (.cons .k0 (.cons .k0 (.cons .k0 (.cons .k0 .nil))))))).ro Rs.nil) rfl rfl ?_
          obtain ⟨r8, hr9, hj4⟩ := bnd_eq hj4
          refine .dgo rfl (.g rfl rfl .g2 rfl) (G.calll call27 (.cons .t1 (.cons .t0 .nil)) (S_slices_Contains_api_Tx z00b a0.pool a1 r8 hr9) .nil (.imp (List.mem_append_right _ Mm.m2) (fun _ => lst_rows) .nil) (fun _ _ => rfl) rfl) (.inr fun _ _ _ h => (h.imp (Ls.of (.cons .k4 (.cons .k0 (.cons .k0 (.cons .k0 (.cons .k0 .nil))))))).ro Rs.nil) fun _ _ => ?_
          refine .dpu rfl (.n rfl) (P.pickF .t1 .t0) rfl rfl ?_
          refine .dnil ?_
          cases hj4
          exact .stj () (.cons Mm.m0 (.cons Mm.m1 (.cons Mm.m2 .nil))) (.of (.cons .k4 (.cons .k0 (.cons .k0 (.cons .k0 (.cons .k0 .nil)))))) .nil
  · clear hj4
    refine .cond .t0 (fun c10 => ?_) (fun c10 => ?_)
    · rw [if_pos c10] at h
      refine .seq ?_
      refine .reg rfl ?_
      refine .opp (P.asg .k) rfl ?_
      refine .nil ?_
      refine .then ?_
      refine .ret ?_
      refine .thr ?_
      cases h
      exact .finw z00b (.r1 rfl (.tmp .g0)) trivial (Ls.of (.cons .k1 (.cons .k1 (.cons .k1 (.cons .k1 .nil))))) .nil
    · rw [if_neg (ne_true_of_eq_false c10)] at h
      refine .skip ?_
      refine .then ?_
      refine .seq ?_
      obtain ⟨hb13, h⟩ := grd_eq h
      refine .dcut (γ := Value × Value) (φ := fun _ => True) (E1 := fun x_ => []) (L1 := fun x_ => [blk b00 62 (chain_Chain.cs ⟨a0.s, [], a0.events, a0.made⟩ z00a x_.2 z00c), lst 36 25 x_.2 ((a0.pool ++ ([a1] : List api_Tx)).map api_Tx.cs), lst 36 25 x_.1 [(api_Tx.cs a1)], blk b1 36 (api_Tx.cs a1), lst 76 3 z00a (a0.s.Locks.map escrow_Lock.cs), lst 70 27 z00c (a0.events.map api_Event.cs)]) (R1 := fun x_ => []) ?_ (fun x_ _ => ?_)
      · refine .draw 6 (.on 0 .pu (.on 1 .pu (.on 2 .pu (.on 3 .pu (.on 5 .ld (.fk 4 6 (.on 6 .go (.on 7 .go (.on 8 .pu (.on 9 .pu (.on 10 .go .nl))))) (.on 4 .go (.on 7 .go (.on 8 .pu (.on 9 .pu (.on 10 .go .nl))))))))))) follows_mixed (.thn (.thn .body)) (by kernel_rfl) ?_
        refine .dpu rfl (.n rfl) (P.mov .g1) rfl rfl ?_
        refine .dpu rfl (.n rfl) (P.mov .t2) rfl rfl ?_
        refine .dpu rfl (.n rfl) (P.nilc .t0) rfl rfl ?_
        refine .dpu rfl (.n rfl) (P.fa .t0 fa_62_1 rfl) rfl rfl ?_
        refine .dld rfl (.n rfl) (V.ld (v := Ag (api_Tx.cs a1)) .t2 .k0 (.agg isAgg36 sizeOf36 rfl rfl)) (fun _ h => h) rfl rfl ?_
        refine .dfk ?_ ?_
        · refine .dgo rfl (.n rfl) (OpV.g (V.ld (v := z00b) .t1 .k1 (.one isAgg22 rfl)) rfl) (.inr fun _ _ _ h => h) fun _ _ => ?_
          refine .dgo rfl (.n rfl) (G.bsl (cs := (api_Tx.cs a1)) .t1 runUnderlying22 sizeOf36 zeroValue36 rfl rfl rfl rfl rfl) (.inl rfl) fun u11 _ => ?_
          refine .dgo rfl (.n rfl) (G.app (by_ := 224) .t1 .t0 .k4 (.inr (.inr ⟨_, Mm.m0⟩)) runUnderlying22 runUnderlying22 sizeOf36 typeInfo36 rfl rfl zeroValue36 rfl rfl (by simpa using hb13) rfl) (.inl rfl) fun u12 _ => ?_
          refine .conseq .k0 (q := lst 36 25 u12 ((a0.pool ++ ([a1] : List api_Tx)).map api_Tx.cs)) (fun _ hh => by simpa [List.map_append] using hh) ?_
          refine .dpu rfl (.n rfl) (P.nilc .t1) rfl rfl ?_
          refine .dpu rfl (.n rfl) (P.fa .t0 fa_62_1 rfl) rfl rfl ?_
          refine .onel .k0 fun ho14 => ?_
          refine .dgo rfl (.n rfl) (G.str .t1 .t0 .k3 (.mk1 (cs' := (chain_Chain.cs ⟨a0.s, [], a0.events, a0.made⟩ z00a u12 z00c)) sizeOf22 rfl ho14 rfl rfl)) (.inl rfl) fun _ _ => ?_
          refine .dnil ?_
          exact .dst ⟨u11, u12⟩ trivial .nil (Ls.of (.cons .k0 (.cons .k0 (.cons .k0 (.cons .k0 (.cons .k0 (.cons .k0 .nil))))))) .nil
        · refine .dgo rfl (.n rfl) (G.bsl (cs := (api_Tx.cs a1)) .t0 runUnderlying22 sizeOf36 zeroValue36 rfl rfl rfl rfl rfl) (.inl rfl) fun u11 _ => ?_
          refine .dgo rfl (.n rfl) (OpV.g (V.ld (v := z00b) .t1 .k2 (.one isAgg22 rfl)) rfl) (.inl rfl) fun _ _ => ?_
          refine .dgo rfl (.n rfl) (G.app (by_ := 224) .t0 .t0 .k4 (.inr (.inr ⟨_, Mm.m0⟩)) runUnderlying22 runUnderlying22 sizeOf36 typeInfo36 rfl rfl zeroValue36 rfl rfl (by simpa using hb13) rfl) (.inl rfl) fun u12 _ => ?_
          refine .conseq .k0 (q := lst 36 25 u12 ((a0.pool ++ ([a1] : List api_Tx)).map api_Tx.cs)) (fun _ hh => by simpa [List.map_append] using hh) ?_
          refine .dpu rfl (.n rfl) (P.nilc .t1) rfl rfl ?_
          refine .dpu rfl (.n rfl) (P.fa .t0 fa_62_1 rfl) rfl rfl ?_
          refine .onel .k0 fun ho14 => ?_
          refine .dgo rfl (.n rfl) (G.str .t1 .t0 .k3 (.mk1 (cs' := (chain_Chain.cs ⟨a0.s, [], a0.events, a0.made⟩ z00a u12 z00c)) sizeOf22 rfl ho14 rfl rfl)) (.inl rfl) fun _ _ => ?_
          refine .dnil ?_
          exact .dst ⟨u11, u12⟩ trivial .nil (Ls.of (.cons .k0 (.cons .k0 (.cons .k0 (.cons .k0 (.cons .k0 (.cons .k0 .nil))))))) .nil
      · obtain ⟨u11, u12⟩ := x_
        refine .then ?_
        refine .seq ?_
        refine .reg rfl ?_
        refine .opp (P.asg .k) rfl ?_
        refine .nil ?_
        refine .then ?_
        refine .ret ?_
        cases h
        exact .finw u12 (.r1 rfl (.tmp .g0)) trivial (Ls.of (.cons .k0 (.cons .k3 (.cons .k0 (.cons .k2 .nil))))) .nil
attribute [irreducible] chain_Chain_Submit
noncomputable def slices_Clone_escrow_Lock (a0 : List escrow_Lock) : Option ((List escrow_Lock)) :=
  grd ((([] : List escrow_Lock).length + a0.length) * 40 ≤ 140737488355328) <| some ((([] : List escrow_Lock) ++ a0))
set_option maxRecDepth 20000 in
set_option maxHeartbeats 1000000 in
theorem S_slices_Clone_escrow_Lock (v00 : Value) (a0 : List escrow_Lock) (r : (List escrow_Lock)) (h : slices_Clone_escrow_Lock a0 = some r) :
    SpecF Tryz.prog 32 [v00] [] [rows 3 v00 (a0.map escrow_Lock.cs)] (fun z : Value => True) (fun z => z) (fun z M => lst 76 3 z (r.map escrow_Lock.cs) ::  M) (fun z M =>  M) := by
  refine .of func32 rfl ntmps32 rfl fun w0 D0 G0 => ?_
  unfold slices_Clone_escrow_Lock at h
  refine .seq ?_
  refine .reg rfl ?_
  refine .op0 (OpP.toV (P.asg .k)) rfl ?_
  refine .nil ?_
  refine .then ?_
  refine .seq ?_
  refine .seq ?_
  refine .reg rfl ?_
  refine .opp (P.mov .g0) rfl ?_
  refine .opg (G.nilr (e := 76) .t0 Mm.m0 (by kernel_rfl) rfl) rfl fun n1 hz2 => ?_
  refine .nil ?_
  refine .then ?_
  refine .cond .t0 (fun c3 => ?_) (fun c3 => ?_)
  · have hx7 : a0 = [] := by simpa using hz2 c3
    replace h : some ([] : List escrow_Lock) = some r := by rw [hx7] at h; simpa [grd] using h
    refine .seq ?_
    refine .reg rfl ?_
    refine .opp (P.asg .k) rfl ?_
    refine .nil ?_
    refine .then ?_
    refine .ret ?_
    refine .thr ?_
    cases h
    refine .lnil 76 3 ?_
    exact .finw nilSl (.r1 rfl (.tmp .g0)) trivial (Ls.of (.cons .k0 .nil)) .nil
  · refine .skip ?_
    refine .then ?_
    refine .seq ?_
    refine .reg rfl ?_
    refine .opg (G.bsl0 runUnderlying43 sizeOf76 rfl) rfl fun u4 _ => ?_
    refine .opp (P.mov .t1) rfl ?_
    obtain ⟨hb6, h⟩ := grd_eq h
    refine .opg (G.app (by_ := 40) .t1 .t0 .k0 (.inl Mm.m0) runUnderlying43 runUnderlying43 sizeOf76 typeInfo76 rfl rfl zeroValue76 rfl (one_map one_76 _) (by simpa using hb6) rfl) rfl fun u5 _ => ?_
    refine .conseq .k0 (q := lst 76 3 u5 ((([] : List escrow_Lock) ++ a0).map escrow_Lock.cs)) (fun _ hh => by simpa [List.map_append] using hh) ?_
    refine .opp (P.asg .t0) rfl ?_
    refine .nil ?_
    refine .then ?_
    refine .ret ?_
    cases h
    exact .finw u5 (.r1 rfl (.tmp .g0)) trivial (Ls.of (.cons .k0 .nil)) .nil
attribute [irreducible] slices_Clone_escrow_Lock
noncomputable def purse_at (a0 : Int) (a1 : Int) : Bool :=
  thn (if (decide (a0 ≥ 0)) = true then (if (decide (a0 < 8)) = true then (if (decide (a1 ≥ 0)) = true then (decide (a1 < 2)) else false) else false) else false) fun (y1 : Bool) => y1
set_option maxRecDepth 20000 in
set_option maxHeartbeats 1000000 in
theorem S_purse_at (a0 : Int) (a1 : Int) (r : Bool) (h : purse_at a0 a1 = r) :
    SpecF Tryz.prog 40 [N a0, N a1] [] [] (fun z : Unit => True) (fun z => Bo r) (fun z M =>  M) (fun z M =>  M) := by
  refine .of func40 rfl ntmps40 rfl fun w0 D0 G0 => ?_
  unfold purse_at at h
  refine .seq ?_
  refine .reg rfl ?_
  refine .op0 (OpP.toV (P.asg .k)) rfl ?_
  refine .nil ?_
  refine .then ?_
  obtain ⟨y1, hj3, h⟩ := thn_eq h
  refine .cutx (γ := Unit) (E1 := fun z2 => [(4, Bo y1)]) (L1 := fun z2 => []) (R1 := fun z2 => []) ?_ (fun z2 => ?_)
  · clear h
    refine .reg rfl ?_
    refine .opp (P.mov .g0) rfl ?_
    refine .opp (P.bin .t0 .k .geq) rfl ?_
    refine .opp (P.mov .t0) rfl ?_
    refine .split .k0 (fun c4 => ?_) (fun c4 => ?_)
    · rw [if_pos c4] at hj3
      refine .gyes rfl .g0 ?_
      refine .opp (P.mov .t1) rfl ?_
      refine .gyes rfl .g1 ?_
      refine .opp (P.bin .t0 .k .lss) rfl ?_
      refine .opp (P.pickT .t1 .t0) rfl ?_
      refine .opp (P.mov .t0) rfl ?_
      refine .split .k0 (fun c5 => ?_) (fun c5 => ?_)
      · rw [if_pos c5] at hj3
        refine .gyes rfl .g0 ?_
        refine .opp (P.mov .g1) rfl ?_
        refine .gyes rfl .g1 ?_
        refine .opp (P.bin .t0 .k .geq) rfl ?_
        refine .opp (P.pickT .t1 .t0) rfl ?_
        refine .opp (P.mov .t0) rfl ?_
        refine .split .k0 (fun c6 => ?_) (fun c6 => ?_)
        · rw [if_pos c6] at hj3
          refine .gyes rfl .g0 ?_
          refine .opp (P.mov .t1) rfl ?_
          refine .gyes rfl .g1 ?_
          refine .opp (P.bin .t0 .k .lss) rfl ?_
          refine .opp (P.pickT .t1 .t0) rfl ?_
          refine .opp (P.asg .t0) rfl ?_
          refine .nil ?_
          subst hj3
          exact .stj () (.cons Mm.m0 .nil) (.of .nil) .nil
        · rw [if_neg (ne_true_of_eq_false c6)] at hj3
          refine .gno rfl .g0 rfl rfl ?_
          refine .gno rfl .g0 rfl rfl ?_
          refine .opp (P.pickF .t0 .k) rfl ?_
          refine .opp (P.asg .t0) rfl ?_
          refine .nil ?_
          subst hj3
          exact .stj () (.cons Mm.m0 .nil) (.of .nil) .nil
      · rw [if_neg (ne_true_of_eq_false c5)] at hj3
        refine .gno rfl .g0 rfl rfl ?_
        refine .gno rfl .g0 rfl rfl ?_
        refine .opp (P.pickF .t0 .k) rfl ?_
        refine .opp (P.mov .t0) rfl ?_
        refine .gno rfl .g0 rfl rfl ?_
        refine .gno rfl .g0 rfl rfl ?_
        refine .opp (P.pickF .t0 .k) rfl ?_
        refine .opp (P.asg .t0) rfl ?_
        refine .nil ?_
        subst hj3
        exact .stj () (.cons Mm.m0 .nil) (.of .nil) .nil
    · rw [if_neg (ne_true_of_eq_false c4)] at hj3
      refine .gno rfl .g0 rfl rfl ?_
      refine .gno rfl .g0 rfl rfl ?_
      refine .opp (P.pickF .t0 .k) rfl ?_
      refine .opp (P.mov .t0) rfl ?_
      refine .gno rfl .g0 rfl rfl ?_
      refine .gno rfl .g0 rfl rfl ?_
      refine .opp (P.pickF .t0 .k) rfl ?_
      refine .opp (P.mov .t0) rfl ?_
      refine .gno rfl .g0 rfl rfl ?_
      refine .gno rfl .g0 rfl rfl ?_
      refine .opp (P.pickF .t0 .k) rfl ?_
      refine .opp (P.asg .t0) rfl ?_
      refine .nil ?_
      subst hj3
      exact .stj () (.cons Mm.m0 .nil) (.of .nil) .nil
  · clear hj3
    refine .ret ?_
    subst h
    exact .finw () (.r1 rfl (.tmp .g0)) trivial (Ls.of .nil) .nil
attribute [irreducible] purse_at
noncomputable def purse_Book_Take (a0 : purse_Book) (a1 : Int) (a2 : Int) (a3 : api_Wide) : Option (purse_Book × Int) :=
  if (!(purse_at a1 a2)) = true then (some (a0, 4)) else (Option.bind (at_ (purse_Book.list a0) a1) fun (x5 : A2_api_Wide) => Option.bind (at_ (A2_api_Wide.list x5) a2) fun (x9 : api_Wide) => if (!(wide_Sub x9 a3).2) = true then (some (a0, 30)) else (Option.bind (at_ (purse_Book.list a0) a1) fun (x15 : A2_api_Wide) => Option.bind (at_ (A2_api_Wide.list x15) a2) fun (x19 : api_Wide) => some ((purse_Book.set a0 (a1).toNat (A2_api_Wide.set x15 (a2).toNat (wide_Sub x9 a3).1), 0))))
set_option maxRecDepth 20000 in
set_option maxHeartbeats 1000000 in
theorem S_purse_Book_Take (a0 : purse_Book) (a1 : Int) (a2 : Int) (a3 : api_Wide) (r : purse_Book × Int) (h : purse_Book_Take a0 a1 a2 a3 = some r) :
    SpecF Tryz.prog 46 [Ag (purse_Book.cs a0), N a1, N a2, Ag (api_Wide.cs a3)] [] [] (fun z : Unit => True) (fun z => Tu [Ag (purse_Book.cs r.1), N r.2]) (fun z M =>  M) (fun z M =>  M) := by
  refine .of func46 rfl ntmps46 rfl fun w0 D0 G0 => ?_
  unfold purse_Book_Take at h
  refine .seq ?_
  refine .reg rfl ?_
  refine .opx (X.box (cs := (purse_Book.cs a0)) .t0 rfl) rfl fun b1 => ?_
  refine .opx (X.box (cs := (api_Wide.cs a3)) .t3 rfl) rfl fun b2 => ?_
  refine .opx (X.alc (cs := (purse_Book.cs ⟨⟨⟨0, 0, 0, 0⟩, ⟨0, 0, 0, 0⟩⟩, ⟨⟨0, 0, 0, 0⟩, ⟨0, 0, 0, 0⟩⟩, ⟨⟨0, 0, 0, 0⟩, ⟨0, 0, 0, 0⟩⟩, ⟨⟨0, 0, 0, 0⟩, ⟨0, 0, 0, 0⟩⟩, ⟨⟨0, 0, 0, 0⟩, ⟨0, 0, 0, 0⟩⟩, ⟨⟨0, 0, 0, 0⟩, ⟨0, 0, 0, 0⟩⟩, ⟨⟨0, 0, 0, 0⟩, ⟨0, 0, 0, 0⟩⟩, ⟨⟨0, 0, 0, 0⟩, ⟨0, 0, 0, 0⟩⟩⟩)) zeroValue41 rfl) rfl fun b3 => ?_
  refine .op0 (OpP.toV (P.asg .k)) rfl ?_
  refine .nil ?_
  refine .then ?_
  refine .seq ?_
  refine .seq ?_
  refine .reg rfl ?_
  refine .opp (P.mov .g3) rfl ?_
  refine .opp (P.mov .g5) rfl ?_
  refine .opg (G.call call40 (.cons .t1 (.cons .t0 .nil)) (S_purse_at a1 a2 _ rfl) .nil .nil (fun _ _ => rfl) (fun _ _ => rfl) rfl) rfl fun _ _ => ?_
  refine .opp (P.not .t0) rfl ?_
  refine .nil ?_
  refine .then ?_
  refine .cond .t0 (fun c4 => ?_) (fun c4 => ?_)
  · rw [if_pos c4] at h
    refine .seq ?_
    refine .reg rfl ?_
    refine .op (V.ld (v := Ag (purse_Book.cs a0)) .t2 .k2 (.agg isAgg41 sizeOf41 rfl rfl)) rfl ?_
    refine .opg (G.str .t0 .g0 .k0 (.mk (cs' := (purse_Book.cs a0)) sizeOf41 rfl rfl rfl rfl)) rfl fun _ _ => ?_
    refine .opp (P.asg .k) rfl ?_
    refine .nil ?_
    refine .then ?_
    refine .ret ?_
    refine .thr ?_
    cases h
    exact .finw () (.r2 rfl (.cell .g1 .k0 (.agg isAgg41 sizeOf41 rfl rfl)) (.tmp .g0)) trivial (Ls.of .nil) .nil
  · rw [if_neg (ne_true_of_eq_false c4)] at h
    refine .skip ?_
    refine .then ?_
    refine .seq ?_
    obtain ⟨x5, hx6, h⟩ := bnd_eq h
    obtain ⟨i7, hi8, hx6⟩ := at_eq hx6
    have hi8_ : (a1).toNat = i7 := by rw [hi8]; rfl
    obtain ⟨x9, hx10, h⟩ := bnd_eq h
    obtain ⟨i11, hi12, hx10⟩ := at_eq hx10
    have hi12_ : (a2).toNat = i11 := by rw [hi12]; rfl
    refine .dcut (γ := Nat) (φ := fun _ => True) (E1 := fun x_ => [(11, Bo (wide_Sub x9 a3).2), (10, pt x_ 0), (8, pt b3 0), (4, pt b1 0), (1, N a1), (2, N a2)]) (L1 := fun x_ => [blk x_ 30 (api_Wide.cs (wide_Sub x9 a3).1), blk b3 41 (purse_Book.cs ⟨⟨⟨0, 0, 0, 0⟩, ⟨0, 0, 0, 0⟩⟩, ⟨⟨0, 0, 0, 0⟩, ⟨0, 0, 0, 0⟩⟩, ⟨⟨0, 0, 0, 0⟩, ⟨0, 0, 0, 0⟩⟩, ⟨⟨0, 0, 0, 0⟩, ⟨0, 0, 0, 0⟩⟩, ⟨⟨0, 0, 0, 0⟩, ⟨0, 0, 0, 0⟩⟩, ⟨⟨0, 0, 0, 0⟩, ⟨0, 0, 0, 0⟩⟩, ⟨⟨0, 0, 0, 0⟩, ⟨0, 0, 0, 0⟩⟩, ⟨⟨0, 0, 0, 0⟩, ⟨0, 0, 0, 0⟩⟩⟩), blk b2 30 (api_Wide.cs a3), blk b1 41 (purse_Book.cs a0)]) (R1 := fun x_ => []) ?_ (fun b13 _ => ?_)
    · refine .draw 13 (.on 0 .pu (.on 1 .pu (.on 2 .pu (.on 3 .pu (.on 4 .ld (.on 5 .ld (.fk 6 10 (.on 7 .pu (.on 8 .pu (.on 9 .pu (.on 10 .go (.on 11 .go (.on 12 .go .nl)))))) (.on 6 .go (.on 7 .pu (.on 8 .pu (.on 9 .pu (.on 11 .go (.on 12 .go .nl))))))))))))) follows_mixed (.thn (.thn .body)) (by kernel_rfl) ?_
      refine .dpu rfl (.n rfl) (P.mov .g3) rfl rfl ?_
      refine .dpu rfl (.n rfl) (P.mov .g5) rfl rfl ?_
      refine .dpu rfl (.n rfl) (P.iad (i := i7) (off' := (0 + i7 * 8)) .t1 hi8 .g3 runUnderlying41 sizeOf39 (lt_of_get hx6) rfl) rfl rfl ?_
      refine .dpu rfl (.n rfl) (P.iad (i := i11) (off' := ((0 + i7 * 8) + i11 * 4)) .t1 hi12 .t0 runUnderlying39 sizeOf30 (lt_of_get hx10) rfl) rfl rfl ?_
      refine .dld rfl (.n rfl) (V.ld (v := Ag (api_Wide.cs x9)) .t0 .k2 (by rcases i7 with _ | _ | _ | _ | _ | _ | _ | _ | _ <;> first | (obtain rfl := Option.some.inj hx6; rcases i11 with _ | _ | _ <;> first | (obtain rfl := Option.some.inj hx10; exact LdV.agg isAgg30 sizeOf30 rfl rfl) | (cases hx10; done)) | (cases hx6; done))) (fun _ h => h) rfl rfl ?_
      refine .dld rfl (.n rfl) (V.ld (v := Ag (api_Wide.cs a3)) .t2 .k1 (.agg isAgg30 sizeOf30 rfl rfl)) (fun _ h => h) rfl rfl ?_
      refine .dfk ?_ ?_
      · refine .dgo rfl (.n rfl) (G.call call39 (.cons .t1 (.cons .t0 .nil)) (S_wide_Sub x9 a3 _ rfl) .nil .nil (fun _ _ => rfl) (fun _ _ => rfl) rfl) (.inr fun _ _ _ h => h) fun _ _ => ?_
        refine .dpu rfl (.n rfl) (P.mov .t0) rfl rfl ?_
        refine .dpu rfl (.n rfl) (P.ext (v := Ag (api_Wide.cs (wide_Sub x9 a3).1)) .g0 rfl) rfl rfl ?_
        refine .dpu rfl (.n rfl) (P.ext (v := Bo (wide_Sub x9 a3).2) .t1 rfl) rfl rfl ?_
        refine .dgo rfl (.n rfl) (OpX.g (X.alc (cs := (api_Wide.cs ⟨0, 0, 0, 0⟩)) zeroValue30 rfl) rfl) (.inr fun _ _ _ h => (h.imp (Ls.of (.cons .k1 (.cons .k1 (.cons .k1 .nil))))).ro Rs.nil) fun b13 _ => ?_
        refine .dgo rfl (.n rfl) (G.str .t2 .g0 .k0 (.mk (cs' := (api_Wide.cs (wide_Sub x9 a3).1)) sizeOf30 rfl rfl rfl rfl)) (.inr fun _ _ _ h => (h.imp (Ls.of (.cons .k1 (.cons .k1 (.cons .k1 .nil))))).ro Rs.nil) fun _ _ => ?_
        refine .dgo rfl (.n rfl) (OpV.g (OpP.toV (P.asg .t1)) rfl) (.inr fun _ _ _ h => (h.imp (Ls.of (.cons .k1 (.cons .k1 (.cons .k1 .nil))))).ro Rs.nil) fun _ _ => ?_
        refine .dnil ?_
        exact .dst b13 trivial (.cons Mm.m0 (.cons Mm.m1 (.cons Mm.m2 (.cons Mm.m3 (.cons Mm.m4 (.cons Mm.m5 .nil)))))) (Ls.of (.cons .k0 (.cons .k0 (.cons .k0 (.cons .k0 .nil))))) .nil
      · refine .dgo rfl (.n rfl) (OpX.g (X.alc (cs := (api_Wide.cs ⟨0, 0, 0, 0⟩)) zeroValue30 rfl) rfl) (.inr fun _ _ _ h => (h.imp (Ls.of (.cons .k1 (.cons .k1 (.cons .k1 .nil))))).ro Rs.nil) fun b13 _ => ?_
        refine .dgo rfl (.n rfl) (G.call call39 (.cons .t2 (.cons .t1 .nil)) (S_wide_Sub x9 a3 _ rfl) .nil .nil (fun _ _ => rfl) (fun _ _ => rfl) rfl) (.inr fun _ _ _ h => (h.imp (Ls.of (.cons .k1 (.cons .k1 (.cons .k1 .nil))))).ro Rs.nil) fun _ _ => ?_
        refine .dpu rfl (.n rfl) (P.mov .t0) rfl rfl ?_
        refine .dpu rfl (.n rfl) (P.ext (v := Ag (api_Wide.cs (wide_Sub x9 a3).1)) .g0 rfl) rfl rfl ?_
        refine .dpu rfl (.n rfl) (P.ext (v := Bo (wide_Sub x9 a3).2) .t1 rfl) rfl rfl ?_
        refine .dgo rfl (.n rfl) (G.str .t1 .g1 .k0 (.mk (cs' := (api_Wide.cs (wide_Sub x9 a3).1)) sizeOf30 rfl rfl rfl rfl)) (.inr fun _ _ _ h => (h.imp (Ls.of (.cons .k1 (.cons .k1 (.cons .k1 .nil))))).ro Rs.nil) fun _ _ => ?_
        refine .dgo rfl (.n rfl) (OpV.g (OpP.toV (P.asg .t0)) rfl) (.inr fun _ _ _ h => (h.imp (Ls.of (.cons .k1 (.cons .k1 (.cons .k1 .nil))))).ro Rs.nil) fun _ _ => ?_
        refine .dnil ?_
        exact .dst b13 trivial (.cons Mm.m0 (.cons Mm.m1 (.cons Mm.m2 (.cons Mm.m3 (.cons Mm.m4 (.cons Mm.m5 .nil)))))) (Ls.of (.cons .k0 (.cons .k0 (.cons .k0 (.cons .k0 .nil))))) .nil
    · refine .then ?_
      refine .seq ?_
      refine .seq ?_
      refine .reg rfl ?_
      refine .opp (P.mov .t0) rfl ?_
      refine .opp (P.not .t0) rfl ?_
      refine .nil ?_
      refine .then ?_
      refine .cond .t0 (fun c14 => ?_) (fun c14 => ?_)
      · rw [if_pos c14] at h
        refine .seq ?_
        refine .reg rfl ?_
        refine .op (V.ld (v := Ag (purse_Book.cs a0)) .t2 .k3 (.agg isAgg41 sizeOf41 rfl rfl)) rfl ?_
        refine .opg (G.str .t0 .g1 .k1 (.mk (cs' := (purse_Book.cs a0)) sizeOf41 rfl rfl rfl rfl)) rfl fun _ _ => ?_
        refine .opp (P.asg .k) rfl ?_
        refine .nil ?_
        refine .then ?_
        refine .ret ?_
        refine .thr ?_
        cases h
        exact .finw () (.r2 rfl (.cell .g2 .k0 (.agg isAgg41 sizeOf41 rfl rfl)) (.tmp .g0)) trivial (Ls.of .nil) .nil
      · rw [if_neg (ne_true_of_eq_false c14)] at h
        refine .skip ?_
        refine .then ?_
        refine .seq ?_
        refine .drawl [blk b13 30 (api_Wide.cs (wide_Sub x9 a3).1), blk b3 41 (purse_Book.cs ⟨⟨⟨0, 0, 0, 0⟩, ⟨0, 0, 0, 0⟩⟩, ⟨⟨0, 0, 0, 0⟩, ⟨0, 0, 0, 0⟩⟩, ⟨⟨0, 0, 0, 0⟩, ⟨0, 0, 0, 0⟩⟩, ⟨⟨0, 0, 0, 0⟩, ⟨0, 0, 0, 0⟩⟩, ⟨⟨0, 0, 0, 0⟩, ⟨0, 0, 0, 0⟩⟩, ⟨⟨0, 0, 0, 0⟩, ⟨0, 0, 0, 0⟩⟩, ⟨⟨0, 0, 0, 0⟩, ⟨0, 0, 0, 0⟩⟩, ⟨⟨0, 0, 0, 0⟩, ⟨0, 0, 0, 0⟩⟩⟩), blk b2 30 (api_Wide.cs a3)] [] (Ls.of (.cons .k0 (.cons .k0 (.cons .k0 .nil)))) Rs.nil 6 (.on 0 .pu (.on 1 .pu (.on 3 .pu (.on 2 .ld (.on 4 .pu (.on 5 .go .nl)))))) follows_mixed (.thn .body) (by kernel_rfl) ?_
        refine .dpu rfl (.n rfl) (P.mov .t3) rfl rfl ?_
        refine .dpu rfl (.n rfl) (P.mov .t4) rfl rfl ?_
        obtain ⟨x15, hx16, h⟩ := bnd_eq h
        obtain ⟨i17, hi18, hx16⟩ := at_eq hx16
        have hi18_ : (a1).toNat = i17 := by rw [hi18]; rfl
        refine .dpu rfl (.n rfl) (P.iad (i := i17) (off' := (0 + i17 * 8)) .t1 hi18 .g3 runUnderlying41 sizeOf39 (lt_of_get hx16) rfl) rfl rfl ?_
        refine .dld rfl (.n rfl) (V.ld (v := Ag (api_Wide.cs (wide_Sub x9 a3).1)) .t2 .k0 (.agg isAgg30 sizeOf30 rfl rfl)) (fun _ h => (h.imp (Ls.of (.cons .k0 (.cons .k0 (.cons .k0 .nil))))).ro Rs.nil) rfl rfl ?_
        obtain ⟨x19, hx20, h⟩ := bnd_eq h
        obtain ⟨i21, hi22, hx20⟩ := at_eq hx20
        have hi22_ : (a2).toNat = i21 := by rw [hi22]; rfl
        refine .dpu rfl (.n rfl) (P.iad (i := i21) (off' := ((0 + i17 * 8) + i21 * 4)) .t2 hi22 .t1 runUnderlying39 sizeOf30 (lt_of_get hx20) rfl) rfl rfl ?_
        refine .dgo rfl (.n rfl) (G.str (cs' := (purse_Book.cs (purse_Book.set a0 i17 (A2_api_Wide.set x15 i21 (wide_Sub x9 a3).1)))) .t1 .t0 .k3 (by rcases i17 with _ | _ | _ | _ | _ | _ | _ | _ | _ <;> first | (obtain rfl := Option.some.inj hx16; rcases i21 with _ | _ | _ <;> first | (obtain rfl := Option.some.inj hx20; exact StV.mk sizeOf30 rfl rfl rfl rfl) | (cases hx20; done)) | (cases hx16; done))) (.inr fun _ _ _ h => (h.imp (Ls.of (.cons .k1 (.cons .k1 (.cons .k1 .nil))))).ro Rs.nil) fun _ _ => ?_
        refine .conseq .k0 (q := blk b1 41 (purse_Book.cs (purse_Book.set a0 (a1).toNat (A2_api_Wide.set x15 (a2).toNat (wide_Sub x9 a3).1)))) (fun _ h_ => by rw [hi18_, hi22_]; exact h_) ?_
        refine .dnil ?_
        refine .then ?_
        refine .seq ?_
        refine .reg rfl ?_
        refine .op (V.ld (v := Ag (purse_Book.cs (purse_Book.set a0 (a1).toNat (A2_api_Wide.set x15 (a2).toNat (wide_Sub x9 a3).1)))) .t1 .k0 (.agg isAgg41 sizeOf41 rfl rfl)) rfl ?_
        refine .opg (G.str .t0 .g0 .k2 (.mk (cs' := (purse_Book.cs (purse_Book.set a0 (a1).toNat (A2_api_Wide.set x15 (a2).toNat (wide_Sub x9 a3).1)))) sizeOf41 rfl rfl rfl rfl)) rfl fun _ _ => ?_
        refine .opp (P.asg .k) rfl ?_
        refine .nil ?_
        refine .then ?_
        refine .ret ?_
        cases h
        exact .finw () (.r2 rfl (.cell .g1 .k0 (.agg isAgg41 sizeOf41 rfl rfl)) (.tmp .g0)) trivial (Ls.of .nil) .nil
attribute [irreducible] purse_Book_Take
set_option maxRecDepth 20000 in
set_option maxHeartbeats 1000000 in
theorem S_tryp (b2 b4 b5 : Nat) (s o : escrow_State) (zs zo : Value) (x e : Int) (hz : IsSl zs) : SpecD Tryz.prog 56 [pt b2 0, pt b4 0, pt b5 0] (.panicking (mustCh e)) (.panicking [{ v := .iface 111 (Ag [N e]), recovered := true }]) [blk b2 45 (escrow_State.cs s zs), blk b4 45 (escrow_State.cs o zo), blk b5 63 [N x]] [] [blk b2 45 (escrow_State.cs s zs), blk b4 45 (escrow_State.cs s zs), blk b5 63 [N e]] := by
  refine .of func56 rfl ntmps56 rfl rfl fun w0 D0 G0 c₀ cs W hm hW => ?_
  refine .srec (v := .iface 111 (Ag [N e])) (cs' := { c₀ with mode := .panicking [{ v := .iface 111 (Ag [N e]), recovered := true }] } :: cs) rfl rfl rfl (fun _ _ => rfl) (by simp [recoverD, hm]) rfl ?_
  refine .sop rfl rfl rfl (OpP.toV (P.tas .t0 runUnderlying111 (fun _ h => by cases h))) rfl ?_
  refine .sop rfl rfl rfl (OpP.toV (P.mov .t0)) rfl ?_
  refine .sop rfl rfl rfl (OpP.toV (P.ext (v := Ag [N e]) .g0 rfl)) rfl ?_
  refine .sop rfl rfl rfl (OpP.toV (P.ext (v := Bo true) .t1 rfl)) rfl ?_
  refine .sopx rfl rfl rfl (X.alc (cs := [N 0]) zeroValue111 rfl) rfl fun b6 => ?_
  refine .sst rfl (G.str .t2 .g0 .k0 (.mk (cs' := [N e]) sizeOf111 rfl rfl rfl rfl)) fun _ _ => ?_
  refine .sop rfl rfl rfl (OpP.toV (P.asg .t1)) rfl ?_
  refine .snil ?_
  refine .scode ?_
  refine .seq ?_
  refine .reg rfl ?_
  refine .opp (P.mov .t0) rfl ?_
  refine .nil ?_
  refine .then ?_
  refine .condT .t0 ?_
  refine .drawl [blk b6 111 (escrow_must.cs ⟨e⟩), blk b2 45 (escrow_State.cs s zs)] [] (Ls.of (.cons .k0 (.cons .k0 .nil))) Rs.nil 5 (.on 1 .pu (.on 0 .ld (.on 2 .ld (.on 3 .go (.on 4 .go .nl))))) follows_mixed (.bods fun u w h => by obtain ⟨⟨_, h⟩, _⟩ := (hW _ _ _).1 h; cases h) (by kernel_rfl) ?_
  refine .dpu rfl (.n rfl) (P.fa .t0 fa_111_0 rfl) rfl rfl ?_
  refine .dld rfl (.n rfl) (V.ld (v := Ag (escrow_State.cs s zs)) .t1 .k1 (.agg isAgg45 sizeOf45 rfl rfl)) (fun _ h => (h.imp (Ls.of (.cons .k0 (.cons .k0 .nil)))).ro Rs.nil) rfl rfl ?_
  refine .dld rfl (.n rfl) (V.ld (v := N e) .t1 .k0 (.one isAgg63 rfl)) (fun _ h => (h.imp (Ls.of (.cons .k0 (.cons .k0 .nil)))).ro Rs.nil) rfl rfl ?_
  refine .dgo rfl (.n rfl) (G.str .t1 .t1 .k2 (.mk (cs' := (escrow_State.cs s zs)) sizeOf45 rfl (onez_45 _ (onec hz)) rfl rfl)) (.inr fun _ _ _ h => (h.imp (Ls.of (.cons .k1 (.cons .k1 .nil)))).ro Rs.nil) fun _ _ => ?_
  refine .dgo rfl (.n rfl) (G.str .t0 .t0 .k3 (.mk (cs' := [N e]) sizeOf63 rfl rfl rfl rfl)) (.inr fun _ _ _ h => (h.imp (Ls.of (.cons .k2 (.cons .k2 .nil)))).ro Rs.nil) fun _ _ => ?_
  refine .dnil ?_
  exact .sfin rfl hW rfl (Ls.of (.cons .k3 (.cons .k1 (.cons .k0 .nil))))
set_option maxRecDepth 20000 in
set_option maxHeartbeats 1000000 in
theorem S_tryr (b2 b4 b5 : Nat) (s o : escrow_State) (zs zo : Value) (x e : Int) (hz : IsSl zs) : SpecD Tryz.prog 56 [pt b2 0, pt b4 0, pt b5 0] .returning .returning [blk b2 45 (escrow_State.cs s zs), blk b4 45 (escrow_State.cs o zo), blk b5 63 [N x]] [] [blk b2 45 (escrow_State.cs s zs), blk b4 45 (escrow_State.cs o zo), blk b5 63 [N x]] := by
  refine .of func56 rfl ntmps56 rfl rfl fun w0 D0 G0 c₀ cs W hm hW => ?_
  refine .srecn rfl rfl rfl (fun _ _ => rfl) (by simp [recoverD, hm]) rfl ?_
  refine .sop rfl rfl rfl (OpP.toV (P.tasn .t0 runUnderlying111 (fun _ h => by cases h) zeroValue111)) rfl ?_
  refine .sop rfl rfl rfl (OpP.toV (P.mov .t0)) rfl ?_
  refine .sop rfl rfl rfl (OpP.toV (P.ext (v := Ag [N 0]) .g0 rfl)) rfl ?_
  refine .sop rfl rfl rfl (OpP.toV (P.ext (v := Bo false) .t1 rfl)) rfl ?_
  refine .sopx rfl rfl rfl (X.alc (cs := [N 0]) zeroValue111 rfl) rfl fun b6 => ?_
  refine .sst rfl (G.str .t2 .g0 .k0 (.mk (cs' := [N 0]) sizeOf111 rfl rfl rfl rfl)) fun _ _ => ?_
  refine .sop rfl rfl rfl (OpP.toV (P.asg .t1)) rfl ?_
  refine .snil ?_
  refine .scode ?_
  refine .seq ?_
  refine .reg rfl ?_
  refine .opp (P.mov .t0) rfl ?_
  refine .nil ?_
  refine .then ?_
  refine .condF .t0 ?_
  refine .skip ?_
  exact .sfin rfl hW (by cases c₀; simp at hm; simp [hm]) (Ls.of (.cons .k1 (.cons .k1 (.cons .k1 .nil))))
noncomputable def purse_Book_Give (a0 : purse_Book) (a1 : Int) (a2 : Int) (a3 : api_Wide) : Option (purse_Book × Int) :=
  if (!(purse_at a1 a2)) = true then (some (a0, 4)) else (Option.bind (at_ (purse_Book.list a0) a1) fun (x5 : A2_api_Wide) => Option.bind (at_ (A2_api_Wide.list x5) a2) fun (x9 : api_Wide) => if (!(wide_Add x9 a3).2) = true then (some (a0, 38)) else (Option.bind (at_ (purse_Book.list a0) a1) fun (x15 : A2_api_Wide) => Option.bind (at_ (A2_api_Wide.list x15) a2) fun (x19 : api_Wide) => some ((purse_Book.set a0 (a1).toNat (A2_api_Wide.set x15 (a2).toNat (wide_Add x9 a3).1), 0))))
set_option maxRecDepth 20000 in
set_option maxHeartbeats 1000000 in
theorem S_purse_Book_Give (a0 : purse_Book) (a1 : Int) (a2 : Int) (a3 : api_Wide) (r : purse_Book × Int) (h : purse_Book_Give a0 a1 a2 a3 = some r) :
    SpecF Tryz.prog 68 [Ag (purse_Book.cs a0), N a1, N a2, Ag (api_Wide.cs a3)] [] [] (fun z : Unit => True) (fun z => Tu [Ag (purse_Book.cs r.1), N r.2]) (fun z M =>  M) (fun z M =>  M) := by
  refine .of func68 rfl ntmps68 rfl fun w0 D0 G0 => ?_
  unfold purse_Book_Give at h
  refine .seq ?_
  refine .reg rfl ?_
  refine .opx (X.box (cs := (purse_Book.cs a0)) .t0 rfl) rfl fun b1 => ?_
  refine .opx (X.box (cs := (api_Wide.cs a3)) .t3 rfl) rfl fun b2 => ?_
  refine .opx (X.alc (cs := (purse_Book.cs ⟨⟨⟨0, 0, 0, 0⟩, ⟨0, 0, 0, 0⟩⟩, ⟨⟨0, 0, 0, 0⟩, ⟨0, 0, 0, 0⟩⟩, ⟨⟨0, 0, 0, 0⟩, ⟨0, 0, 0, 0⟩⟩, ⟨⟨0, 0, 0, 0⟩, ⟨0, 0, 0, 0⟩⟩, ⟨⟨0, 0, 0, 0⟩, ⟨0, 0, 0, 0⟩⟩, ⟨⟨0, 0, 0, 0⟩, ⟨0, 0, 0, 0⟩⟩, ⟨⟨0, 0, 0, 0⟩, ⟨0, 0, 0, 0⟩⟩, ⟨⟨0, 0, 0, 0⟩, ⟨0, 0, 0, 0⟩⟩⟩)) zeroValue41 rfl) rfl fun b3 => ?_
  refine .op0 (OpP.toV (P.asg .k)) rfl ?_
  refine .nil ?_
  refine .then ?_
  refine .seq ?_
  refine .seq ?_
  refine .reg rfl ?_
  refine .opp (P.mov .g3) rfl ?_
  refine .opp (P.mov .g5) rfl ?_
  refine .opg (G.call call40 (.cons .t1 (.cons .t0 .nil)) (S_purse_at a1 a2 _ rfl) .nil .nil (fun _ _ => rfl) (fun _ _ => rfl) rfl) rfl fun _ _ => ?_
  refine .opp (P.not .t0) rfl ?_
  refine .nil ?_
  refine .then ?_
  refine .cond .t0 (fun c4 => ?_) (fun c4 => ?_)
  · rw [if_pos c4] at h
    refine .seq ?_
    refine .reg rfl ?_
    refine .op (V.ld (v := Ag (purse_Book.cs a0)) .t2 .k2 (.agg isAgg41 sizeOf41 rfl rfl)) rfl ?_
    refine .opg (G.str .t0 .g0 .k0 (.mk (cs' := (purse_Book.cs a0)) sizeOf41 rfl rfl rfl rfl)) rfl fun _ _ => ?_
    refine .opp (P.asg .k) rfl ?_
    refine .nil ?_
    refine .then ?_
    refine .ret ?_
    refine .thr ?_
    cases h
    exact .finw () (.r2 rfl (.cell .g1 .k0 (.agg isAgg41 sizeOf41 rfl rfl)) (.tmp .g0)) trivial (Ls.of .nil) .nil
  · rw [if_neg (ne_true_of_eq_false c4)] at h
    refine .skip ?_
    refine .then ?_
    refine .seq ?_
    obtain ⟨x5, hx6, h⟩ := bnd_eq h
    obtain ⟨i7, hi8, hx6⟩ := at_eq hx6
    have hi8_ : (a1).toNat = i7 := by rw [hi8]; rfl
    obtain ⟨x9, hx10, h⟩ := bnd_eq h
    obtain ⟨i11, hi12, hx10⟩ := at_eq hx10
    have hi12_ : (a2).toNat = i11 := by rw [hi12]; rfl
    refine .dcut (γ := Nat) (φ := fun _ => True) (E1 := fun x_ => [(11, Bo (wide_Add x9 a3).2), (10, pt x_ 0), (8, pt b3 0), (4, pt b1 0), (1, N a1), (2, N a2)]) (L1 := fun x_ => [blk x_ 30 (api_Wide.cs (wide_Add x9 a3).1), blk b3 41 (purse_Book.cs ⟨⟨⟨0, 0, 0, 0⟩, ⟨0, 0, 0, 0⟩⟩, ⟨⟨0, 0, 0, 0⟩, ⟨0, 0, 0, 0⟩⟩, ⟨⟨0, 0, 0, 0⟩, ⟨0, 0, 0, 0⟩⟩, ⟨⟨0, 0, 0, 0⟩, ⟨0, 0, 0, 0⟩⟩, ⟨⟨0, 0, 0, 0⟩, ⟨0, 0, 0, 0⟩⟩, ⟨⟨0, 0, 0, 0⟩, ⟨0, 0, 0, 0⟩⟩, ⟨⟨0, 0, 0, 0⟩, ⟨0, 0, 0, 0⟩⟩, ⟨⟨0, 0, 0, 0⟩, ⟨0, 0, 0, 0⟩⟩⟩), blk b2 30 (api_Wide.cs a3), blk b1 41 (purse_Book.cs a0)]) (R1 := fun x_ => []) ?_ (fun b13 _ => ?_)
    · refine .draw 13 (.on 0 .pu (.on 1 .pu (.on 2 .pu (.on 3 .pu (.on 4 .ld (.on 5 .ld (.fk 6 10 (.on 7 .pu (.on 8 .pu (.on 9 .pu (.on 10 .go (.on 11 .go (.on 12 .go .nl)))))) (.on 6 .go (.on 7 .pu (.on 8 .pu (.on 9 .pu (.on 11 .go (.on 12 .go .nl))))))))))))) follows_mixed (.thn (.thn .body)) (by kernel_rfl) ?_
      refine .dpu rfl (.n rfl) (P.mov .g3) rfl rfl ?_
      refine .dpu rfl (.n rfl) (P.mov .g5) rfl rfl ?_
      refine .dpu rfl (.n rfl) (P.iad (i := i7) (off' := (0 + i7 * 8)) .t1 hi8 .g3 runUnderlying41 sizeOf39 (lt_of_get hx6) rfl) rfl rfl ?_
      refine .dpu rfl (.n rfl) (P.iad (i := i11) (off' := ((0 + i7 * 8) + i11 * 4)) .t1 hi12 .t0 runUnderlying39 sizeOf30 (lt_of_get hx10) rfl) rfl rfl ?_
      refine .dld rfl (.n rfl) (V.ld (v := Ag (api_Wide.cs x9)) .t0 .k2 (by rcases i7 with _ | _ | _ | _ | _ | _ | _ | _ | _ <;> first | (obtain rfl := Option.some.inj hx6; rcases i11 with _ | _ | _ <;> first | (obtain rfl := Option.some.inj hx10; exact LdV.agg isAgg30 sizeOf30 rfl rfl) | (cases hx10; done)) | (cases hx6; done))) (fun _ h => h) rfl rfl ?_
      refine .dld rfl (.n rfl) (V.ld (v := Ag (api_Wide.cs a3)) .t2 .k1 (.agg isAgg30 sizeOf30 rfl rfl)) (fun _ h => h) rfl rfl ?_
      refine .dfk ?_ ?_
      · refine .dgo rfl (.n rfl) (G.call call47 (.cons .t1 (.cons .t0 .nil)) (S_wide_Add x9 a3 _ rfl) .nil .nil (fun _ _ => rfl) (fun _ _ => rfl) rfl) (.inr fun _ _ _ h => h) fun _ _ => ?_
        refine .dpu rfl (.n rfl) (P.mov .t0) rfl rfl ?_
        refine .dpu rfl (.n rfl) (P.ext (v := Ag (api_Wide.cs (wide_Add x9 a3).1)) .g0 rfl) rfl rfl ?_
        refine .dpu rfl (.n rfl) (P.ext (v := Bo (wide_Add x9 a3).2) .t1 rfl) rfl rfl ?_
        refine .dgo rfl (.n rfl) (OpX.g (X.alc (cs := (api_Wide.cs ⟨0, 0, 0, 0⟩)) zeroValue30 rfl) rfl) (.inr fun _ _ _ h => (h.imp (Ls.of (.cons .k1 (.cons .k1 (.cons .k1 .nil))))).ro Rs.nil) fun b13 _ => ?_
        refine .dgo rfl (.n rfl) (G.str .t2 .g0 .k0 (.mk (cs' := (api_Wide.cs (wide_Add x9 a3).1)) sizeOf30 rfl rfl rfl rfl)) (.inr fun _ _ _ h => (h.imp (Ls.of (.cons .k1 (.cons .k1 (.cons .k1 .nil))))).ro Rs.nil) fun _ _ => ?_
        refine .dgo rfl (.n rfl) (OpV.g (OpP.toV (P.asg .t1)) rfl) (.inr fun _ _ _ h => (h.imp (Ls.of (.cons .k1 (.cons .k1 (.cons .k1 .nil))))).ro Rs.nil) fun _ _ => ?_
        refine .dnil ?_
        exact .dst b13 trivial (.cons Mm.m0 (.cons Mm.m1 (.cons Mm.m2 (.cons Mm.m3 (.cons Mm.m4 (.cons Mm.m5 .nil)))))) (Ls.of (.cons .k0 (.cons .k0 (.cons .k0 (.cons .k0 .nil))))) .nil
      · refine .dgo rfl (.n rfl) (OpX.g (X.alc (cs := (api_Wide.cs ⟨0, 0, 0, 0⟩)) zeroValue30 rfl) rfl) (.inr fun _ _ _ h => (h.imp (Ls.of (.cons .k1 (.cons .k1 (.cons .k1 .nil))))).ro Rs.nil) fun b13 _ => ?_
        refine .dgo rfl (.n rfl) (G.call call47 (.cons .t2 (.cons .t1 .nil)) (S_wide_Add x9 a3 _ rfl) .nil .nil (fun _ _ => rfl) (fun _ _ => rfl) rfl) (.inr fun _ _ _ h => (h.imp (Ls.of (.cons .k1 (.cons .k1 (.cons .k1 .nil))))).ro Rs.nil) fun _ _ => ?_
        refine .dpu rfl (.n rfl) (P.mov .t0) rfl rfl ?_
        refine .dpu rfl (.n rfl) (P.ext (v := Ag (api_Wide.cs (wide_Add x9 a3).1)) .g0 rfl) rfl rfl ?_
        refine .dpu rfl (.n rfl) (P.ext (v := Bo (wide_Add x9 a3).2) .t1 rfl) rfl rfl ?_
        refine .dgo rfl (.n rfl) (G.str .t1 .g1 .k0 (.mk (cs' := (api_Wide.cs (wide_Add x9 a3).1)) sizeOf30 rfl rfl rfl rfl)) (.inr fun _ _ _ h => (h.imp (Ls.of (.cons .k1 (.cons .k1 (.cons .k1 .nil))))).ro Rs.nil) fun _ _ => ?_
        refine .dgo rfl (.n rfl) (OpV.g (OpP.toV (P.asg .t0)) rfl) (.inr fun _ _ _ h => (h.imp (Ls.of (.cons .k1 (.cons .k1 (.cons .k1 .nil))))).ro Rs.nil) fun _ _ => ?_
        refine .dnil ?_
        exact .dst b13 trivial (.cons Mm.m0 (.cons Mm.m1 (.cons Mm.m2 (.cons Mm.m3 (.cons Mm.m4 (.cons Mm.m5 .nil)))))) (Ls.of (.cons .k0 (.cons .k0 (.cons .k0 (.cons .k0 .nil))))) .nil
    · refine .then ?_
      refine .seq ?_
      refine .seq ?_
      refine .reg rfl ?_
      refine .opp (P.mov .t0) rfl ?_
      refine .opp (P.not .t0) rfl ?_
      refine .nil ?_
      refine .then ?_
      refine .cond .t0 (fun c14 => ?_) (fun c14 => ?_)
      · rw [if_pos c14] at h
        refine .seq ?_
        refine .reg rfl ?_
        refine .op (V.ld (v := Ag (purse_Book.cs a0)) .t2 .k3 (.agg isAgg41 sizeOf41 rfl rfl)) rfl ?_
        refine .opg (G.str .t0 .g1 .k1 (.mk (cs' := (purse_Book.cs a0)) sizeOf41 rfl rfl rfl rfl)) rfl fun _ _ => ?_
        refine .opp (P.asg .k) rfl ?_
        refine .nil ?_
        refine .then ?_
        refine .ret ?_
        refine .thr ?_
        cases h
        exact .finw () (.r2 rfl (.cell .g2 .k0 (.agg isAgg41 sizeOf41 rfl rfl)) (.tmp .g0)) trivial (Ls.of .nil) .nil
      · rw [if_neg (ne_true_of_eq_false c14)] at h
        refine .skip ?_
        refine .then ?_
        refine .seq ?_
        refine .drawl [blk b13 30 (api_Wide.cs (wide_Add x9 a3).1), blk b3 41 (purse_Book.cs ⟨⟨⟨0, 0, 0, 0⟩, ⟨0, 0, 0, 0⟩⟩, ⟨⟨0, 0, 0, 0⟩, ⟨0, 0, 0, 0⟩⟩, ⟨⟨0, 0, 0, 0⟩, ⟨0, 0, 0, 0⟩⟩, ⟨⟨0, 0, 0, 0⟩, ⟨0, 0, 0, 0⟩⟩, ⟨⟨0, 0, 0, 0⟩, ⟨0, 0, 0, 0⟩⟩, ⟨⟨0, 0, 0, 0⟩, ⟨0, 0, 0, 0⟩⟩, ⟨⟨0, 0, 0, 0⟩, ⟨0, 0, 0, 0⟩⟩, ⟨⟨0, 0, 0, 0⟩, ⟨0, 0, 0, 0⟩⟩⟩), blk b2 30 (api_Wide.cs a3)] [] (Ls.of (.cons .k0 (.cons .k0 (.cons .k0 .nil)))) Rs.nil 6 (.on 0 .pu (.on 1 .pu (.on 3 .pu (.on 2 .ld (.on 4 .pu (.on 5 .go .nl)))))) follows_mixed (.thn .body) (by kernel_rfl) ?_
        refine .dpu rfl (.n rfl) (P.mov .t3) rfl rfl ?_
        refine .dpu rfl (.n rfl) (P.mov .t4) rfl rfl ?_
        obtain ⟨x15, hx16, h⟩ := bnd_eq h
        obtain ⟨i17, hi18, hx16⟩ := at_eq hx16
        have hi18_ : (a1).toNat = i17 := by rw [hi18]; rfl
        refine .dpu rfl (.n rfl) (P.iad (i := i17) (off' := (0 + i17 * 8)) .t1 hi18 .g3 runUnderlying41 sizeOf39 (lt_of_get hx16) rfl) rfl rfl ?_
        refine .dld rfl (.n rfl) (V.ld (v := Ag (api_Wide.cs (wide_Add x9 a3).1)) .t2 .k0 (.agg isAgg30 sizeOf30 rfl rfl)) (fun _ h => (h.imp (Ls.of (.cons .k0 (.cons .k0 (.cons .k0 .nil))))).ro Rs.nil) rfl rfl ?_
        obtain ⟨x19, hx20, h⟩ := bnd_eq h
        obtain ⟨i21, hi22, hx20⟩ := at_eq hx20
        have hi22_ : (a2).toNat = i21 := by rw [hi22]; rfl
        refine .dpu rfl (.n rfl) (P.iad (i := i21) (off' := ((0 + i17 * 8) + i21 * 4)) .t2 hi22 .t1 runUnderlying39 sizeOf30 (lt_of_get hx20) rfl) rfl rfl ?_
        refine .dgo rfl (.n rfl) (G.str (cs' := (purse_Book.cs (purse_Book.set a0 i17 (A2_api_Wide.set x15 i21 (wide_Add x9 a3).1)))) .t1 .t0 .k3 (by rcases i17 with _ | _ | _ | _ | _ | _ | _ | _ | _ <;> first | (obtain rfl := Option.some.inj hx16; rcases i21 with _ | _ | _ <;> first | (obtain rfl := Option.some.inj hx20; exact StV.mk sizeOf30 rfl rfl rfl rfl) | (cases hx20; done)) | (cases hx16; done))) (.inr fun _ _ _ h => (h.imp (Ls.of (.cons .k1 (.cons .k1 (.cons .k1 .nil))))).ro Rs.nil) fun _ _ => ?_
        refine .conseq .k0 (q := blk b1 41 (purse_Book.cs (purse_Book.set a0 (a1).toNat (A2_api_Wide.set x15 (a2).toNat (wide_Add x9 a3).1)))) (fun _ h_ => by rw [hi18_, hi22_]; exact h_) ?_
        refine .dnil ?_
        refine .then ?_
        refine .seq ?_
        refine .reg rfl ?_
        refine .op (V.ld (v := Ag (purse_Book.cs (purse_Book.set a0 (a1).toNat (A2_api_Wide.set x15 (a2).toNat (wide_Add x9 a3).1)))) .t1 .k0 (.agg isAgg41 sizeOf41 rfl rfl)) rfl ?_
        refine .opg (G.str .t0 .g0 .k2 (.mk (cs' := (purse_Book.cs (purse_Book.set a0 (a1).toNat (A2_api_Wide.set x15 (a2).toNat (wide_Add x9 a3).1)))) sizeOf41 rfl rfl rfl rfl)) rfl fun _ _ => ?_
        refine .opp (P.asg .k) rfl ?_
        refine .nil ?_
        refine .then ?_
        refine .ret ?_
        cases h
        exact .finw () (.r2 rfl (.cell .g1 .k0 (.agg isAgg41 sizeOf41 rfl rfl)) (.tmp .g0)) trivial (Ls.of .nil) .nil
attribute [irreducible] purse_Book_Give
noncomputable def purse_Book_Move (a0 : purse_Book) (a1 : Int) (a2 : Int) (a3 : Int) (a4 : api_Wide) : Option (purse_Book × Int) :=
  Option.bind (purse_Book_Take a0 a1 a3 a4) fun r4 => if (decide (r4.2 ≠ 0)) = true then (some (a0, r4.2)) else (Option.bind (purse_Book_Give r4.1 a2 a3 a4) fun r8 => if (decide (r8.2 ≠ 0)) = true then (some (a0, r8.2)) else (some (r8.1, 0)))
set_option maxRecDepth 20000 in
set_option maxHeartbeats 1000000 in
theorem S_purse_Book_Move (a0 : purse_Book) (a1 : Int) (a2 : Int) (a3 : Int) (a4 : api_Wide) (r : purse_Book × Int) (h : purse_Book_Move a0 a1 a2 a3 a4 = some r) :
    SpecF Tryz.prog 61 [Ag (purse_Book.cs a0), N a1, N a2, N a3, Ag (api_Wide.cs a4)] [] [] (fun z : Unit => True) (fun z => Tu [Ag (purse_Book.cs r.1), N r.2]) (fun z M =>  M) (fun z M =>  M) := by
  refine .of func61 rfl ntmps61 rfl fun w0 D0 G0 => ?_
  unfold purse_Book_Move at h
  refine .seq ?_
  refine .reg rfl ?_
  refine .opx (X.box (cs := (purse_Book.cs a0)) .t0 rfl) rfl fun b1 => ?_
  refine .opx (X.box (cs := (api_Wide.cs a4)) .t4 rfl) rfl fun b2 => ?_
  refine .opx (X.alc (cs := (purse_Book.cs ⟨⟨⟨0, 0, 0, 0⟩, ⟨0, 0, 0, 0⟩⟩, ⟨⟨0, 0, 0, 0⟩, ⟨0, 0, 0, 0⟩⟩, ⟨⟨0, 0, 0, 0⟩, ⟨0, 0, 0, 0⟩⟩, ⟨⟨0, 0, 0, 0⟩, ⟨0, 0, 0, 0⟩⟩, ⟨⟨0, 0, 0, 0⟩, ⟨0, 0, 0, 0⟩⟩, ⟨⟨0, 0, 0, 0⟩, ⟨0, 0, 0, 0⟩⟩, ⟨⟨0, 0, 0, 0⟩, ⟨0, 0, 0, 0⟩⟩, ⟨⟨0, 0, 0, 0⟩, ⟨0, 0, 0, 0⟩⟩⟩)) zeroValue41 rfl) rfl fun b3 => ?_
  refine .op0 (OpP.toV (P.asg .k)) rfl ?_
  refine .nil ?_
  refine .then ?_
  refine .seq ?_
  refine .reg rfl ?_
  refine .op (V.ld (v := Ag (purse_Book.cs a0)) .g2 .k2 (.agg isAgg41 sizeOf41 rfl rfl)) rfl ?_
  refine .opp (P.mov .t4) rfl ?_
  refine .opp (P.mov .g6) rfl ?_
  refine .op (V.ld (v := Ag (api_Wide.cs a4)) .g4 .k1 (.agg isAgg30 sizeOf30 rfl rfl)) rfl ?_
  obtain ⟨r4, hr5, h⟩ := bnd_eq h
  refine .opg (G.call call46 (.cons .t3 (.cons .t2 (.cons .t1 (.cons .t0 .nil)))) (S_purse_Book_Take a0 a1 a3 a4 r4 hr5) .nil .nil (fun _ _ => rfl) (fun _ _ => rfl) rfl) rfl fun _ _ => ?_
  refine .opp (P.mov .t0) rfl ?_
  refine .opp (P.ext (v := Ag (purse_Book.cs r4.1)) .g0 rfl) rfl ?_
  refine .opp (P.ext (v := N r4.2) .t1 rfl) rfl ?_
  refine .opx (X.alc (cs := (purse_Book.cs ⟨⟨⟨0, 0, 0, 0⟩, ⟨0, 0, 0, 0⟩⟩, ⟨⟨0, 0, 0, 0⟩, ⟨0, 0, 0, 0⟩⟩, ⟨⟨0, 0, 0, 0⟩, ⟨0, 0, 0, 0⟩⟩, ⟨⟨0, 0, 0, 0⟩, ⟨0, 0, 0, 0⟩⟩, ⟨⟨0, 0, 0, 0⟩, ⟨0, 0, 0, 0⟩⟩, ⟨⟨0, 0, 0, 0⟩, ⟨0, 0, 0, 0⟩⟩, ⟨⟨0, 0, 0, 0⟩, ⟨0, 0, 0, 0⟩⟩, ⟨⟨0, 0, 0, 0⟩, ⟨0, 0, 0, 0⟩⟩⟩)) zeroValue41 rfl) rfl fun b6 => ?_
  refine .opg (G.str .t2 .g0 .k0 (.mk (cs' := (purse_Book.cs r4.1)) sizeOf41 rfl rfl rfl rfl)) rfl fun _ _ => ?_
  refine .opp (P.asg .t1) rfl ?_
  refine .nil ?_
  refine .then ?_
  refine .seq ?_
  refine .seq ?_
  refine .reg rfl ?_
  refine .opp (P.mov .g0) rfl ?_
  refine .opp (P.bin .t0 .k .neq) rfl ?_
  refine .nil ?_
  refine .then ?_
  refine .cond .t0 (fun c7 => ?_) (fun c7 => ?_)
  · rw [if_pos c7] at h
    refine .seq ?_
    refine .reg rfl ?_
    refine .op (V.ld (v := Ag (purse_Book.cs a0)) .t4 .k3 (.agg isAgg41 sizeOf41 rfl rfl)) rfl ?_
    refine .opp (P.mov .t1) rfl ?_
    refine .opg (G.str .t1 .g2 .k1 (.mk (cs' := (purse_Book.cs a0)) sizeOf41 rfl rfl rfl rfl)) rfl fun _ _ => ?_
    refine .opp (P.asg .t0) rfl ?_
    refine .nil ?_
    refine .then ?_
    refine .ret ?_
    refine .thr ?_
    cases h
    exact .finw () (.r2 rfl (.cell .g2 .k0 (.agg isAgg41 sizeOf41 rfl rfl)) (.tmp .g0)) trivial (Ls.of .nil) .nil
  · rw [if_neg (ne_true_of_eq_false c7)] at h
    refine .skip ?_
    refine .then ?_
    refine .seq ?_
    refine .reg rfl ?_
    refine .op (V.ld (v := Ag (purse_Book.cs r4.1)) .g1 .k0 (.agg isAgg41 sizeOf41 rfl rfl)) rfl ?_
    refine .opp (P.mov .t6) rfl ?_
    refine .opp (P.mov .t7) rfl ?_
    refine .op (V.ld (v := Ag (api_Wide.cs a4)) .t6 .k2 (.agg isAgg30 sizeOf30 rfl rfl)) rfl ?_
    obtain ⟨r8, hr9, h⟩ := bnd_eq h
    refine .opg (G.call call68 (.cons .t3 (.cons .t2 (.cons .t1 (.cons .t0 .nil)))) (S_purse_Book_Give r4.1 a2 a3 a4 r8 hr9) .nil .nil (fun _ _ => rfl) (fun _ _ => rfl) rfl) rfl fun _ _ => ?_
    refine .opp (P.mov .t0) rfl ?_
    refine .opp (P.ext (v := Ag (purse_Book.cs r8.1)) .g0 rfl) rfl ?_
    refine .opp (P.ext (v := N r8.2) .t1 rfl) rfl ?_
    refine .opg (G.str .t1 .g2 .k0 (.mk (cs' := (purse_Book.cs r8.1)) sizeOf41 rfl rfl rfl rfl)) rfl fun _ _ => ?_
    refine .drop .k1 ?_
    refine .opp (P.asg .t0) rfl ?_
    refine .nil ?_
    refine .then ?_
    refine .seq ?_
    refine .seq ?_
    refine .reg rfl ?_
    refine .opp (P.mov .g0) rfl ?_
    refine .opp (P.bin .t0 .k .neq) rfl ?_
    refine .nil ?_
    refine .then ?_
    refine .cond .t0 (fun c10 => ?_) (fun c10 => ?_)
    · rw [if_pos c10] at h
      refine .seq ?_
      refine .reg rfl ?_
      refine .op (V.ld (v := Ag (purse_Book.cs a0)) .t3 .k3 (.agg isAgg41 sizeOf41 rfl rfl)) rfl ?_
      refine .opp (P.mov .t1) rfl ?_
      refine .opg (G.str .t1 .g2 .k1 (.mk (cs' := (purse_Book.cs a0)) sizeOf41 rfl rfl rfl rfl)) rfl fun _ _ => ?_
      refine .opp (P.asg .t0) rfl ?_
      refine .nil ?_
      refine .then ?_
      refine .ret ?_
      refine .thr ?_
      cases h
      exact .finw () (.r2 rfl (.cell .g2 .k0 (.agg isAgg41 sizeOf41 rfl rfl)) (.tmp .g0)) trivial (Ls.of .nil) .nil
    · rw [if_neg (ne_true_of_eq_false c10)] at h
      refine .skip ?_
      refine .then ?_
      refine .seq ?_
      refine .reg rfl ?_
      refine .op (V.ld (v := Ag (purse_Book.cs r8.1)) .t1 .k0 (.agg isAgg41 sizeOf41 rfl rfl)) rfl ?_
      refine .opg (G.str .t0 .g1 .k1 (.mk (cs' := (purse_Book.cs r8.1)) sizeOf41 rfl rfl rfl rfl)) rfl fun _ _ => ?_
      refine .opp (P.asg .k) rfl ?_
      refine .nil ?_
      refine .then ?_
      refine .ret ?_
      cases h
      exact .finw () (.r2 rfl (.cell .g2 .k0 (.agg isAgg41 sizeOf41 rfl rfl)) (.tmp .g0)) trivial (Ls.of .nil) .nil
attribute [irreducible] purse_Book_Move
noncomputable def escrow_check (a0 : Int) : Option (Px (Unit)) :=
  if (decide (a0 ≠ 0)) = true then (some (.er a0)) else (some ((.ok ())))
set_option maxRecDepth 20000 in
set_option maxHeartbeats 1000000 in
theorem S_escrow_check (a0 : Int) (r : Px (Unit)) (h : escrow_check a0 = some r) :
    SpecX Tryz.prog 62 [N a0] [] [] (fun (r : Unit) (z : Unit) => True) mustCh r (fun r z => Tu []) (fun r z M =>  M) (fun r z M =>  M) := by
  refine .of func62 rfl ntmps62 rfl fun w0 D0 G0 => ?_
  unfold escrow_check at h
  refine .seq ?_
  refine .reg rfl ?_
  refine .opp (P.mov .g0) rfl ?_
  refine .opp (P.bin .t0 .k .neq) rfl ?_
  refine .nil ?_
  refine .then ?_
  refine .cond .t0 (fun c1 => ?_) (fun c1 => ?_)
  · rw [if_pos c1] at h
    refine .reg rfl ?_
    refine .opp (P.mov .t0) rfl ?_
    refine .opp (P.bld (v := Ag (escrow_must.cs ⟨a0⟩)) (.cons .t0 .nil) (bld_run zeroValue111 runUnderlying111 pl_111 (by kernel_rfl))) rfl ?_
    refine .opp (P.mki .t0 runUnderlying111) rfl ?_
    refine .opg (G.pan .t0 ?_) rfl fun _ h_ => h_.elim
    cases h
    exact .xer rfl
  · rw [if_neg (ne_true_of_eq_false c1)] at h
    refine .skip ?_
    cases h
    refine .xokn ?_
    exact .finwn () (.r0 rfl) trivial (Ls.of .nil) .nil
attribute [irreducible] escrow_check
noncomputable def escrow_take_int (a0 : purse_Book) (a1 : Int) (a2 : Int) (a3 : api_Wide) : Option (Px (purse_Book)) :=
  Option.bind (purse_Book_Take a0 a1 a2 a3) fun r2 => pxe (escrow_check r2.2) (fun e7 => some (.er e7)) fun r5 => some (.ok r2.1)
set_option maxRecDepth 20000 in
set_option maxHeartbeats 1000000 in
theorem S_escrow_take_int (b00 o00 : Nat) (T00 : TypeId) (pre00 post00 : List Value) (ho00 : pre00.length = o00) (a0 : purse_Book) (a1 : Int) (a2 : Int) (a3 : api_Wide) (r : Px (purse_Book)) (h : escrow_take_int a0 a1 a2 a3 = some r) :
    SpecX Tryz.prog 69 [pt b00 o00, N a1, N a2, Ag (api_Wide.cs a3)] [blk b00 T00 (pre00 ++ (purse_Book.cs a0) ++ post00)] [] (fun (r : purse_Book) (z : Unit) => True) mustCh r (fun r z => Tu []) (fun r z M => blk b00 T00 (pre00 ++ (purse_Book.cs r) ++ post00) ::  M) (fun r z M =>  M) := by
  refine .of func69 rfl ntmps69 rfl fun w0 D0 G0 => ?_
  unfold escrow_take_int at h
  refine .seq ?_
  refine .reg rfl ?_
  refine .opx (X.box (cs := (api_Wide.cs a3)) .t3 rfl) rfl fun b1 => ?_
  refine .nil ?_
  refine .then ?_
  refine .seq ?_
  obtain ⟨r2, hr3, h⟩ := bnd_eq h
  refine .dcut (γ := Nat) (φ := fun _ => True) (E1 := fun x_ => [(9, N r2.2), (8, pt x_ 0), (0, pt b00 o00)]) (L1 := fun x_ => [blk x_ 41 (purse_Book.cs r2.1), blk b1 30 (api_Wide.cs a3), blk b00 T00 (pre00 ++ (purse_Book.cs a0) ++ post00)]) (R1 := fun x_ => []) ?_ (fun b4 _ => ?_)
  · refine .draw 13 (.on 0 .pu (.on 1 .pu (.on 3 .pu (.on 4 .pu (.on 2 .ld (.on 5 .ld (.fk 6 10 (.on 7 .pu (.on 8 .pu (.on 9 .pu (.on 10 .go (.on 11 .go (.on 12 .go .nl)))))) (.on 6 .go (.on 7 .pu (.on 8 .pu (.on 9 .pu (.on 11 .go (.on 12 .go .nl))))))))))))) follows_mixed (.thn (.thn .bodx)) (by kernel_rfl) ?_
    refine .dpu rfl (.n rfl) (P.mov .g1) rfl rfl ?_
    refine .dpu rfl (.n rfl) (P.nilc .t0) rfl rfl ?_
    refine .dpu rfl (.n rfl) (P.mov .t3) rfl rfl ?_
    refine .dpu rfl (.n rfl) (P.mov .t4) rfl rfl ?_
    refine .dld rfl (.n rfl) (V.ld (v := Ag (purse_Book.cs a0)) .t2 .k1 (LdV.mid0 ho00 (.agg isAgg41 sizeOf41 rfl rfl))) (fun _ h => h) rfl rfl ?_
    refine .dld rfl (.n rfl) (V.ld (v := Ag (api_Wide.cs a3)) .t3 .k0 (.agg isAgg30 sizeOf30 rfl rfl)) (fun _ h => h) rfl rfl ?_
    refine .dfk ?_ ?_
    · refine .dgo rfl (.n rfl) (G.call call46 (.cons .t1 (.cons .t2 (.cons .t1 (.cons .t0 .nil)))) (S_purse_Book_Take a0 a1 a2 a3 r2 hr3) .nil .nil (fun _ _ => rfl) (fun _ _ => rfl) rfl) (.inr fun _ _ _ h => h) fun _ _ => ?_
      refine .dpu rfl (.n rfl) (P.mov .t0) rfl rfl ?_
      refine .dpu rfl (.n rfl) (P.ext (v := Ag (purse_Book.cs r2.1)) .g0 rfl) rfl rfl ?_
      refine .dpu rfl (.n rfl) (P.ext (v := N r2.2) .t1 rfl) rfl rfl ?_
      refine .dgo rfl (.n rfl) (OpX.g (X.alc (cs := (purse_Book.cs ⟨⟨⟨0, 0, 0, 0⟩, ⟨0, 0, 0, 0⟩⟩, ⟨⟨0, 0, 0, 0⟩, ⟨0, 0, 0, 0⟩⟩, ⟨⟨0, 0, 0, 0⟩, ⟨0, 0, 0, 0⟩⟩, ⟨⟨0, 0, 0, 0⟩, ⟨0, 0, 0, 0⟩⟩, ⟨⟨0, 0, 0, 0⟩, ⟨0, 0, 0, 0⟩⟩, ⟨⟨0, 0, 0, 0⟩, ⟨0, 0, 0, 0⟩⟩, ⟨⟨0, 0, 0, 0⟩, ⟨0, 0, 0, 0⟩⟩, ⟨⟨0, 0, 0, 0⟩, ⟨0, 0, 0, 0⟩⟩⟩)) zeroValue41 rfl) rfl) (.inr fun _ _ _ h => (h.imp (Ls.of (.cons .k1 (.cons .k1 .nil)))).ro Rs.nil) fun b4 _ => ?_
      refine .dgo rfl (.n rfl) (G.str .t2 .g0 .k0 (.mk (cs' := (purse_Book.cs r2.1)) sizeOf41 rfl rfl rfl rfl)) (.inr fun _ _ _ h => (h.imp (Ls.of (.cons .k1 (.cons .k1 .nil)))).ro Rs.nil) fun _ _ => ?_
      refine .dgo rfl (.n rfl) (OpV.g (OpP.toV (P.asg .t1)) rfl) (.inr fun _ _ _ h => (h.imp (Ls.of (.cons .k1 (.cons .k1 .nil)))).ro Rs.nil) fun _ _ => ?_
      refine .dnil ?_
      exact .dst b4 trivial (.cons Mm.m0 (.cons Mm.m1 (.cons Mm.m2 .nil))) (Ls.of (.cons .k0 (.cons .k0 (.cons .k0 .nil)))) .nil
    · refine .dgo rfl (.n rfl) (OpX.g (X.alc (cs := (purse_Book.cs ⟨⟨⟨0, 0, 0, 0⟩, ⟨0, 0, 0, 0⟩⟩, ⟨⟨0, 0, 0, 0⟩, ⟨0, 0, 0, 0⟩⟩, ⟨⟨0, 0, 0, 0⟩, ⟨0, 0, 0, 0⟩⟩, ⟨⟨0, 0, 0, 0⟩, ⟨0, 0, 0, 0⟩⟩, ⟨⟨0, 0, 0, 0⟩, ⟨0, 0, 0, 0⟩⟩, ⟨⟨0, 0, 0, 0⟩, ⟨0, 0, 0, 0⟩⟩, ⟨⟨0, 0, 0, 0⟩, ⟨0, 0, 0, 0⟩⟩, ⟨⟨0, 0, 0, 0⟩, ⟨0, 0, 0, 0⟩⟩⟩)) zeroValue41 rfl) rfl) (.inr fun _ _ _ h => (h.imp (Ls.of (.cons .k1 (.cons .k1 .nil)))).ro Rs.nil) fun b4 _ => ?_
      refine .dgo rfl (.n rfl) (G.call call46 (.cons .t2 (.cons .t3 (.cons .t2 (.cons .t1 .nil)))) (S_purse_Book_Take a0 a1 a2 a3 r2 hr3) .nil .nil (fun _ _ => rfl) (fun _ _ => rfl) rfl) (.inr fun _ _ _ h => (h.imp (Ls.of (.cons .k1 (.cons .k1 .nil)))).ro Rs.nil) fun _ _ => ?_
      refine .dpu rfl (.n rfl) (P.mov .t0) rfl rfl ?_
      refine .dpu rfl (.n rfl) (P.ext (v := Ag (purse_Book.cs r2.1)) .g0 rfl) rfl rfl ?_
      refine .dpu rfl (.n rfl) (P.ext (v := N r2.2) .t1 rfl) rfl rfl ?_
      refine .dgo rfl (.n rfl) (G.str .t1 .g1 .k0 (.mk (cs' := (purse_Book.cs r2.1)) sizeOf41 rfl rfl rfl rfl)) (.inr fun _ _ _ h => (h.imp (Ls.of (.cons .k1 (.cons .k1 .nil)))).ro Rs.nil) fun _ _ => ?_
      refine .dgo rfl (.n rfl) (OpV.g (OpP.toV (P.asg .t0)) rfl) (.inr fun _ _ _ h => (h.imp (Ls.of (.cons .k1 (.cons .k1 .nil)))).ro Rs.nil) fun _ _ => ?_
      refine .dnil ?_
      exact .dst b4 trivial (.cons Mm.m0 (.cons Mm.m1 (.cons Mm.m2 .nil))) (Ls.of (.cons .k0 (.cons .k0 (.cons .k0 .nil)))) .nil
  · refine .then ?_
    refine .seq ?_
    refine .reg rfl ?_
    refine .opp (P.mov .t0) rfl ?_
    rcases pxe_eq h with ⟨e7, hr6, h⟩ | ⟨r5, hr6, h⟩
    · refine .opg (G.callx call62 (.cons .t0 .nil) (S_escrow_check r2.2 (.er e7) hr6).er .nil .nil ?_) rfl fun _ h_ => h_.elim
      refine .thp ?_
      cases h
      exact .xer rfl
    · refine .opg (G.call call62 (.cons .t0 .nil) (S_escrow_check r2.2 (.ok r5) hr6).ok .nil .nil (fun _ _ => rfl) (fun _ _ => rfl) rfl) rfl fun _ _ => ?_
      refine .drop .k0 ?_
      refine .nil ?_
      refine .then ?_
      refine .reg rfl ?_
      refine .opp (P.mov .t1) rfl ?_
      refine .op (V.ld (v := Ag (purse_Book.cs r2.1)) .t1 .k0 (.agg isAgg41 sizeOf41 rfl rfl)) rfl ?_
      refine .opp (P.nilc .t1) rfl ?_
      refine .opg (G.str .t1 .t0 .k2 (StV.mid0 ho00 (.mk (cs' := (purse_Book.cs r2.1)) sizeOf41 rfl rfl rfl rfl))) rfl fun _ _ => ?_
      refine .nil ?_
      cases h
      refine .xokn ?_
      exact .finwn () (.r0 rfl) trivial (Ls.of (.cons .k0 .nil)) .nil
attribute [irreducible] escrow_take_int
noncomputable def escrow_put_int (a0 : purse_Book) (a1 : Int) (a2 : Int) (a3 : api_Wide) : Option (Px (purse_Book)) :=
  Option.bind (purse_Book_Give a0 a1 a2 a3) fun r2 => pxe (escrow_check r2.2) (fun e7 => some (.er e7)) fun r5 => some (.ok r2.1)
set_option maxRecDepth 20000 in
set_option maxHeartbeats 1000000 in
theorem S_escrow_put_int (b00 o00 : Nat) (T00 : TypeId) (pre00 post00 : List Value) (ho00 : pre00.length = o00) (a0 : purse_Book) (a1 : Int) (a2 : Int) (a3 : api_Wide) (r : Px (purse_Book)) (h : escrow_put_int a0 a1 a2 a3 = some r) :
    SpecX Tryz.prog 70 [pt b00 o00, N a1, N a2, Ag (api_Wide.cs a3)] [blk b00 T00 (pre00 ++ (purse_Book.cs a0) ++ post00)] [] (fun (r : purse_Book) (z : Unit) => True) mustCh r (fun r z => Tu []) (fun r z M => blk b00 T00 (pre00 ++ (purse_Book.cs r) ++ post00) ::  M) (fun r z M =>  M) := by
  refine .of func70 rfl ntmps70 rfl fun w0 D0 G0 => ?_
  unfold escrow_put_int at h
  refine .seq ?_
  refine .reg rfl ?_
  refine .opx (X.box (cs := (api_Wide.cs a3)) .t3 rfl) rfl fun b1 => ?_
  refine .nil ?_
  refine .then ?_
  refine .seq ?_
  obtain ⟨r2, hr3, h⟩ := bnd_eq h
  refine .dcut (γ := Nat) (φ := fun _ => True) (E1 := fun x_ => [(9, N r2.2), (8, pt x_ 0), (0, pt b00 o00)]) (L1 := fun x_ => [blk x_ 41 (purse_Book.cs r2.1), blk b1 30 (api_Wide.cs a3), blk b00 T00 (pre00 ++ (purse_Book.cs a0) ++ post00)]) (R1 := fun x_ => []) ?_ (fun b4 _ => ?_)
  · refine .draw 13 (.on 0 .pu (.on 1 .pu (.on 3 .pu (.on 4 .pu (.on 2 .ld (.on 5 .ld (.fk 6 10 (.on 7 .pu (.on 8 .pu (.on 9 .pu (.on 10 .go (.on 11 .go (.on 12 .go .nl)))))) (.on 6 .go (.on 7 .pu (.on 8 .pu (.on 9 .pu (.on 11 .go (.on 12 .go .nl))))))))))))) follows_mixed (.thn (.thn .bodx)) (by kernel_rfl) ?_
    refine .dpu rfl (.n rfl) (P.mov .g1) rfl rfl ?_
    refine .dpu rfl (.n rfl) (P.nilc .t0) rfl rfl ?_
    refine .dpu rfl (.n rfl) (P.mov .t3) rfl rfl ?_
    refine .dpu rfl (.n rfl) (P.mov .t4) rfl rfl ?_
    refine .dld rfl (.n rfl) (V.ld (v := Ag (purse_Book.cs a0)) .t2 .k1 (LdV.mid0 ho00 (.agg isAgg41 sizeOf41 rfl rfl))) (fun _ h => h) rfl rfl ?_
    refine .dld rfl (.n rfl) (V.ld (v := Ag (api_Wide.cs a3)) .t3 .k0 (.agg isAgg30 sizeOf30 rfl rfl)) (fun _ h => h) rfl rfl ?_
    refine .dfk ?_ ?_
    · refine .dgo rfl (.n rfl) (G.call call68 (.cons .t1 (.cons .t2 (.cons .t1 (.cons .t0 .nil)))) (S_purse_Book_Give a0 a1 a2 a3 r2 hr3) .nil .nil (fun _ _ => rfl) (fun _ _ => rfl) rfl) (.inr fun _ _ _ h => h) fun _ _ => ?_
      refine .dpu rfl (.n rfl) (P.mov .t0) rfl rfl ?_
      refine .dpu rfl (.n rfl) (P.ext (v := Ag (purse_Book.cs r2.1)) .g0 rfl) rfl rfl ?_
      refine .dpu rfl (.n rfl) (P.ext (v := N r2.2) .t1 rfl) rfl rfl ?_
      refine .dgo rfl (.n rfl) (OpX.g (X.alc (cs := (purse_Book.cs ⟨⟨⟨0, 0, 0, 0⟩, ⟨0, 0, 0, 0⟩⟩, ⟨⟨0, 0, 0, 0⟩, ⟨0, 0, 0, 0⟩⟩, ⟨⟨0, 0, 0, 0⟩, ⟨0, 0, 0, 0⟩⟩, ⟨⟨0, 0, 0, 0⟩, ⟨0, 0, 0, 0⟩⟩, ⟨⟨0, 0, 0, 0⟩, ⟨0, 0, 0, 0⟩⟩, ⟨⟨0, 0, 0, 0⟩, ⟨0, 0, 0, 0⟩⟩, ⟨⟨0, 0, 0, 0⟩, ⟨0, 0, 0, 0⟩⟩, ⟨⟨0, 0, 0, 0⟩, ⟨0, 0, 0, 0⟩⟩⟩)) zeroValue41 rfl) rfl) (.inr fun _ _ _ h => (h.imp (Ls.of (.cons .k1 (.cons .k1 .nil)))).ro Rs.nil) fun b4 _ => ?_
      refine .dgo rfl (.n rfl) (G.str .t2 .g0 .k0 (.mk (cs' := (purse_Book.cs r2.1)) sizeOf41 rfl rfl rfl rfl)) (.inr fun _ _ _ h => (h.imp (Ls.of (.cons .k1 (.cons .k1 .nil)))).ro Rs.nil) fun _ _ => ?_
      refine .dgo rfl (.n rfl) (OpV.g (OpP.toV (P.asg .t1)) rfl) (.inr fun _ _ _ h => (h.imp (Ls.of (.cons .k1 (.cons .k1 .nil)))).ro Rs.nil) fun _ _ => ?_
      refine .dnil ?_
      exact .dst b4 trivial (.cons Mm.m0 (.cons Mm.m1 (.cons Mm.m2 .nil))) (Ls.of (.cons .k0 (.cons .k0 (.cons .k0 .nil)))) .nil
    · refine .dgo rfl (.n rfl) (OpX.g (X.alc (cs := (purse_Book.cs ⟨⟨⟨0, 0, 0, 0⟩, ⟨0, 0, 0, 0⟩⟩, ⟨⟨0, 0, 0, 0⟩, ⟨0, 0, 0, 0⟩⟩, ⟨⟨0, 0, 0, 0⟩, ⟨0, 0, 0, 0⟩⟩, ⟨⟨0, 0, 0, 0⟩, ⟨0, 0, 0, 0⟩⟩, ⟨⟨0, 0, 0, 0⟩, ⟨0, 0, 0, 0⟩⟩, ⟨⟨0, 0, 0, 0⟩, ⟨0, 0, 0, 0⟩⟩, ⟨⟨0, 0, 0, 0⟩, ⟨0, 0, 0, 0⟩⟩, ⟨⟨0, 0, 0, 0⟩, ⟨0, 0, 0, 0⟩⟩⟩)) zeroValue41 rfl) rfl) (.inr fun _ _ _ h => (h.imp (Ls.of (.cons .k1 (.cons .k1 .nil)))).ro Rs.nil) fun b4 _ => ?_
      refine .dgo rfl (.n rfl) (G.call call68 (.cons .t2 (.cons .t3 (.cons .t2 (.cons .t1 .nil)))) (S_purse_Book_Give a0 a1 a2 a3 r2 hr3) .nil .nil (fun _ _ => rfl) (fun _ _ => rfl) rfl) (.inr fun _ _ _ h => (h.imp (Ls.of (.cons .k1 (.cons .k1 .nil)))).ro Rs.nil) fun _ _ => ?_
      refine .dpu rfl (.n rfl) (P.mov .t0) rfl rfl ?_
      refine .dpu rfl (.n rfl) (P.ext (v := Ag (purse_Book.cs r2.1)) .g0 rfl) rfl rfl ?_
      refine .dpu rfl (.n rfl) (P.ext (v := N r2.2) .t1 rfl) rfl rfl ?_
      refine .dgo rfl (.n rfl) (G.str .t1 .g1 .k0 (.mk (cs' := (purse_Book.cs r2.1)) sizeOf41 rfl rfl rfl rfl)) (.inr fun _ _ _ h => (h.imp (Ls.of (.cons .k1 (.cons .k1 .nil)))).ro Rs.nil) fun _ _ => ?_
      refine .dgo rfl (.n rfl) (OpV.g (OpP.toV (P.asg .t0)) rfl) (.inr fun _ _ _ h => (h.imp (Ls.of (.cons .k1 (.cons .k1 .nil)))).ro Rs.nil) fun _ _ => ?_
      refine .dnil ?_
      exact .dst b4 trivial (.cons Mm.m0 (.cons Mm.m1 (.cons Mm.m2 .nil))) (Ls.of (.cons .k0 (.cons .k0 (.cons .k0 .nil)))) .nil
  · refine .then ?_
    refine .seq ?_
    refine .reg rfl ?_
    refine .opp (P.mov .t0) rfl ?_
    rcases pxe_eq h with ⟨e7, hr6, h⟩ | ⟨r5, hr6, h⟩
    · refine .opg (G.callx call62 (.cons .t0 .nil) (S_escrow_check r2.2 (.er e7) hr6).er .nil .nil ?_) rfl fun _ h_ => h_.elim
      refine .thp ?_
      cases h
      exact .xer rfl
    · refine .opg (G.call call62 (.cons .t0 .nil) (S_escrow_check r2.2 (.ok r5) hr6).ok .nil .nil (fun _ _ => rfl) (fun _ _ => rfl) rfl) rfl fun _ _ => ?_
      refine .drop .k0 ?_
      refine .nil ?_
      refine .then ?_
      refine .reg rfl ?_
      refine .opp (P.mov .t1) rfl ?_
      refine .op (V.ld (v := Ag (purse_Book.cs r2.1)) .t1 .k0 (.agg isAgg41 sizeOf41 rfl rfl)) rfl ?_
      refine .opp (P.nilc .t1) rfl ?_
      refine .opg (G.str .t1 .t0 .k2 (StV.mid0 ho00 (.mk (cs' := (purse_Book.cs r2.1)) sizeOf41 rfl rfl rfl rfl))) rfl fun _ _ => ?_
      refine .nil ?_
      cases h
      refine .xokn ?_
      exact .finwn () (.r0 rfl) trivial (Ls.of (.cons .k0 .nil)) .nil
attribute [irreducible] escrow_put_int
end Go.Sl
