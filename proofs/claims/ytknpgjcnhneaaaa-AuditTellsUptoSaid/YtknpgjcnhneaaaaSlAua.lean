/- Walked code of the program, its pure functions and their contracts. -/
import Derived.Test.YtknpgjcnhneaaaaProg
import Derived.Test.YtknpgjcnhneaaaaSlMap
set_option linter.unusedVariables false
set_option linter.unusedSimpArgs false
namespace Go.Sl
open Go.Proofs Go.Proofs.Try
theorem follows_mixed : Try.prog.follows .mixedOrders = true := by kernel_rfl
structure api_Wide where
  a0 : UInt64
  a1 : UInt64
  a2 : UInt64
  a3 : UInt64
  deriving DecidableEq
def api_Wide.cs (x : api_Wide) : List Value := [U x.a0, U x.a1, U x.a2, U x.a3]
def api_Wide.list (x : api_Wide) : List UInt64 := [x.a0, x.a1, x.a2, x.a3]
def api_Wide.set (x : api_Wide) (k : Nat) (v : UInt64) : api_Wide := ⟨if k = 0 then v else x.a0, if k = 1 then v else x.a1, if k = 2 then v else x.a2, if k = 3 then v else x.a3⟩
def api_Wide.z : api_Wide := ⟨0, 0, 0, 0⟩
structure api_Inv where
  User : Int
  Root : ByteArray
  Router : Int
  Send : Int
  Recv : Int
  To : Int
  Id : ByteArray
  deriving DecidableEq
def api_Inv.cs (x : api_Inv) : List Value := [N x.User, .string x.Root, N x.Router, N x.Send, N x.Recv, N x.To, .string x.Id]
def api_Inv.z : api_Inv := ⟨0, ⟨#[]⟩, 0, 0, 0, 0, ⟨#[]⟩⟩
structure api_Var where
  Amount : api_Wide
  Expiry : Int
  deriving DecidableEq
def api_Var.cs (x : api_Var) : List Value := [U x.Amount.a0, U x.Amount.a1, U x.Amount.a2, U x.Amount.a3, N x.Expiry]
def api_Var.z : api_Var := ⟨api_Wide.z, 0⟩
structure api_Tx where
  From : Int
  Nonce : Int
  Kind : Int
  Asset : Int
  Amount : api_Wide
  Inv : api_Inv
  Var : api_Var
  Fee : api_Wide
  Sig : ByteArray
  deriving DecidableEq
def api_Tx.cs (x : api_Tx) : List Value := [N x.From, N x.Nonce, N x.Kind, N x.Asset, U x.Amount.a0, U x.Amount.a1, U x.Amount.a2, U x.Amount.a3, N x.Inv.User, .string x.Inv.Root, N x.Inv.Router, N x.Inv.Send, N x.Inv.Recv, N x.Inv.To, .string x.Inv.Id, U x.Var.Amount.a0, U x.Var.Amount.a1, U x.Var.Amount.a2, U x.Var.Amount.a3, N x.Var.Expiry, U x.Fee.a0, U x.Fee.a1, U x.Fee.a2, U x.Fee.a3, .string x.Sig]
def api_Tx.z : api_Tx := ⟨0, 0, 0, 0, api_Wide.z, api_Inv.z, api_Var.z, api_Wide.z, ⟨#[]⟩⟩
structure api_Event where
  Time : Int
  Code : Int
  Tx : api_Tx
  deriving DecidableEq
def api_Event.cs (x : api_Event) : List Value := [N x.Time, N x.Code, N x.Tx.From, N x.Tx.Nonce, N x.Tx.Kind, N x.Tx.Asset, U x.Tx.Amount.a0, U x.Tx.Amount.a1, U x.Tx.Amount.a2, U x.Tx.Amount.a3, N x.Tx.Inv.User, .string x.Tx.Inv.Root, N x.Tx.Inv.Router, N x.Tx.Inv.Send, N x.Tx.Inv.Recv, N x.Tx.Inv.To, .string x.Tx.Inv.Id, U x.Tx.Var.Amount.a0, U x.Tx.Var.Amount.a1, U x.Tx.Var.Amount.a2, U x.Tx.Var.Amount.a3, N x.Tx.Var.Expiry, U x.Tx.Fee.a0, U x.Tx.Fee.a1, U x.Tx.Fee.a2, U x.Tx.Fee.a3, .string x.Tx.Sig]
def api_Event.z : api_Event := ⟨0, 0, api_Tx.z⟩
structure audit_Use where
  Leaf : Int
  Act : Int
  Key : ByteArray
  Fee : api_Wide
  deriving DecidableEq
def audit_Use.cs (x : audit_Use) : List Value := [N x.Leaf, N x.Act, .string x.Key, U x.Fee.a0, U x.Fee.a1, U x.Fee.a2, U x.Fee.a3]
def audit_Use.z : audit_Use := ⟨0, 0, ⟨#[]⟩, api_Wide.z⟩
structure narrowsref06_W where
  B : List UInt8
  E : Int
  deriving DecidableEq
def narrowsref06_W.cs (x : narrowsref06_W) (z0 : Value) : List Value := [z0, N x.E]
def narrowsref06_W.g (x : narrowsref06_W) (z : Value) : Asn := rows 1 z (x.B.map (fun x => [B8 x]))
def narrowsref06_W.z : narrowsref06_W := ⟨[], 0⟩
theorem fa_30_0 : FaV Try.prog 30 0 0 := .mk runUnderlying30 rfl sizeOf3 rfl rfl
theorem fa_30_1 : FaV Try.prog 30 1 1 := .mk runUnderlying30 rfl sizeOf9 rfl rfl
theorem fa_30_2 : FaV Try.prog 30 2 2 := .mk runUnderlying30 rfl sizeOf3 rfl rfl
theorem fa_30_3 : FaV Try.prog 30 3 3 := .mk runUnderlying30 rfl sizeOf3 rfl rfl
theorem fa_30_4 : FaV Try.prog 30 4 4 := .mk runUnderlying30 rfl sizeOf3 rfl rfl
theorem fa_30_5 : FaV Try.prog 30 5 5 := .mk runUnderlying30 rfl sizeOf3 rfl rfl
theorem fa_30_6 : FaV Try.prog 30 6 6 := .mk runUnderlying30 rfl sizeOf9 rfl rfl
theorem fa_34_5 : FaV Try.prog 34 5 8 := .mk runUnderlying34 rfl sizeOf30 rfl rfl
theorem fa_36_2 : FaV Try.prog 36 2 2 := .mk runUnderlying36 rfl sizeOf34 rfl rfl
theorem fa_43_0 : FaV Try.prog 43 0 0 := .mk runUnderlying43 rfl sizeOf3 rfl rfl
theorem fa_43_1 : FaV Try.prog 43 1 1 := .mk runUnderlying43 rfl sizeOf3 rfl rfl
theorem fa_43_2 : FaV Try.prog 43 2 2 := .mk runUnderlying43 rfl sizeOf9 rfl rfl
theorem fa_53_0 : FaV Try.prog 53 0 0 := .mk runUnderlying53 rfl sizeOf40 rfl rfl
theorem fa_53_1 : FaV Try.prog 53 1 1 := .mk runUnderlying53 rfl sizeOf3 rfl rfl
theorem pl_43 : ∀ w, ((#[{ name := "Leaf", type := 3, offset := 0, embedded := false, tag := "", pkgPath := "", byteOffset := 0 }, { name := "Act", type := 3, offset := 1, embedded := false, tag := "", pkgPath := "", byteOffset := 8 }, { name := "Key", type := 9, offset := 2, embedded := false, tag := "", pkgPath := "", byteOffset := 16 }, { name := "Fee", type := 28, offset := 3, embedded := false, tag := "", pkgPath := "", byteOffset := 32 }] : Array Field).mapM fun f => do pure (f.offset, ← sizeOf f.type) : Sem (Array (Nat × Nat))).run Try.prog w = .ok #[(0, 1), (1, 1), (2, 1), (3, 4)] w := fun w => by simp [sizeOf3, sizeOf9, sizeOf28]
theorem pl_53 : ∀ w, ((#[{ name := "B", type := 40, offset := 0, embedded := false, tag := "", pkgPath := "", byteOffset := 0 }, { name := "E", type := 3, offset := 1, embedded := false, tag := "", pkgPath := "", byteOffset := 24 }] : Array Field).mapM fun f => do pure (f.offset, ← sizeOf f.type) : Sem (Array (Nat × Nat))).run Try.prog w = .ok #[(0, 1), (1, 1)] w := fun w => by simp [sizeOf3, sizeOf40]
theorem one_5 (x : UInt8) : oneAll ((fun x => [B8 x]) x) = true := rfl
theorem one_9 (x : ByteArray) : oneAll ((fun x => [.string x]) x) = true := rfl
theorem one_43 (x : audit_Use) : oneAll (audit_Use.cs x) = true := rfl
theorem onez_53 (x : narrowsref06_W) {z0 : Value} (hz0 : z0.oneCell' = true) : oneAll (narrowsref06_W.cs x z0) = true := by
  simp only [oneAll, narrowsref06_W.cs, List.all_cons, List.all_nil, hz0]
  rfl
theorem eqv_28 (d : Nat) (x y : api_Wide) : EqV Try.prog (d + 2) 28 (Ag x.cs) (Ag y.cs) (decide (x = y)) :=
  EqV.cast (.array (by kernel_rfl) sizeOf26 (.cons (.one isAgg26 rfl) (.one isAgg26 rfl) (EqV.u (by kernel_rfl)) (.cons (.one isAgg26 rfl) (.one isAgg26 rfl) (EqV.u (by kernel_rfl)) (.cons (.one isAgg26 rfl) (.one isAgg26 rfl) (EqV.u (by kernel_rfl)) (.cons (.one isAgg26 rfl) (.one isAgg26 rfl) (EqV.u (by kernel_rfl)) .nil))))) (by cases x; cases y; rw [Bool.eq_iff_iff]; simp [api_Wide.mk.injEq, and_assoc])
theorem eq_28_eql (x y : api_Wide) : BinV Try.prog .eql 28 (Ag x.cs) (Ag y.cs) (Bo (decide (x = y))) := .eqv (by kernel_rfl) (eqv_28 9998 x y)
theorem eq_28_neq (x y : api_Wide) : BinV Try.prog .neq 28 (Ag x.cs) (Ag y.cs) (Bo (decide (x ≠ y))) := by
  have := BinV.neqv (P := Try.prog) (by kernel_rfl) (eqv_28 9998 x y); rw [← decide_not'] at this; exact this
theorem eqv_43 (d : Nat) (x y : audit_Use) : EqV Try.prog (d + 3) 43 (Ag x.cs) (Ag y.cs) (decide (x = y)) :=
  EqV.cast (.struct (fs := [{ name := "Leaf", type := 3, offset := 0, embedded := false, tag := "", pkgPath := "", byteOffset := 0 }, { name := "Act", type := 3, offset := 1, embedded := false, tag := "", pkgPath := "", byteOffset := 8 }, { name := "Key", type := 9, offset := 2, embedded := false, tag := "", pkgPath := "", byteOffset := 16 }, { name := "Fee", type := 28, offset := 3, embedded := false, tag := "", pkgPath := "", byteOffset := 32 }]) (by kernel_rfl) (by kernel_rfl) (.cons rfl (.one isAgg3 rfl) (.one isAgg3 rfl) (EqV.int (by kernel_rfl)) (.cons rfl (.one isAgg3 rfl) (.one isAgg3 rfl) (EqV.int (by kernel_rfl)) (.cons rfl (.one isAgg9 rfl) (.one isAgg9 rfl) (EqV.str (by kernel_rfl)) (.cons rfl (.agg isAgg28 sizeOf28 (by kernel_rfl)) (.agg isAgg28 sizeOf28 (by kernel_rfl)) (eqv_28 _ x.Fee y.Fee) .nil))))) (by cases x; cases y; rw [Bool.eq_iff_iff]; simp [audit_Use.mk.injEq, and_assoc])
theorem eq_43_eql (x y : audit_Use) : BinV Try.prog .eql 43 (Ag x.cs) (Ag y.cs) (Bo (decide (x = y))) := .eqv (by kernel_rfl) (eqv_43 9997 x y)
theorem eq_43_neq (x y : audit_Use) : BinV Try.prog .neq 43 (Ag x.cs) (Ag y.cs) (Bo (decide (x ≠ y))) := by
  have := BinV.neqv (P := Try.prog) (by kernel_rfl) (eqv_43 9997 x y); rw [← decide_not'] at this; exact this
noncomputable def slices_Clone_audit_Use (a0 : List audit_Use) : Option ((List audit_Use)) :=
  grd ((([] : List audit_Use).length + a0.length) * 64 ≤ 140737488355328) <| some ((([] : List audit_Use) ++ a0))
set_option maxRecDepth 20000 in
set_option maxHeartbeats 1000000 in
theorem S_slices_Clone_audit_Use (v00 : Value) (a0 : List audit_Use) (r : (List audit_Use)) (h : slices_Clone_audit_Use a0 = some r) :
    SpecF Try.prog 23 [v00] [] [rows 7 v00 (a0.map audit_Use.cs)] (fun z : Value => True) (fun z => z) (fun z M => lst 43 7 z (r.map audit_Use.cs) ::  M) (fun z M =>  M) := by
  refine .of func23 rfl ntmps23 rfl fun w0 D0 G0 => ?_
  unfold slices_Clone_audit_Use at h
  refine .seq ?_
  refine .reg rfl ?_
  refine .op0 (OpP.toV (P.asg .k)) rfl ?_
  refine .nil ?_
  refine .then ?_
  refine .seq ?_
  refine .seq ?_
  refine .reg rfl ?_
  refine .opp (P.mov .g0) rfl ?_
  refine .opg (G.nilr (e := 43) .t0 Mm.m0 (by kernel_rfl) rfl) rfl fun n1 hz2 => ?_
  refine .nil ?_
  refine .then ?_
  refine .cond .t0 (fun c3 => ?_) (fun c3 => ?_)
  · have hx7 : a0 = [] := by simpa using hz2 c3
    replace h : some ([] : List audit_Use) = some r := by rw [hx7] at h; simpa [grd] using h
    refine .seq ?_
    refine .reg rfl ?_
    refine .opp (P.asg .k) rfl ?_
    refine .nil ?_
    refine .then ?_
    refine .ret ?_
    refine .thr ?_
    cases h
    refine .lnil 43 7 ?_
    exact .finw nilSl (.r1 rfl (.tmp .g0)) trivial (Ls.of (.cons .k0 .nil)) .nil
  · refine .skip ?_
    refine .then ?_
    refine .seq ?_
    refine .reg rfl ?_
    refine .opg (G.bsl0 runUnderlying24 sizeOf43 rfl) rfl fun u4 _ => ?_
    refine .opp (P.mov .t1) rfl ?_
    obtain ⟨hb6, h⟩ := grd_eq h
    refine .opg (G.app (by_ := 64) .t1 .t0 .k0 (.inl Mm.m0) runUnderlying24 runUnderlying24 sizeOf43 typeInfo43 rfl rfl zeroValue43 rfl (one_map one_43 _) (by simpa using hb6) rfl) rfl fun u5 _ => ?_
    refine .conseq .k0 (q := lst 43 7 u5 ((([] : List audit_Use) ++ a0).map audit_Use.cs)) (fun _ hh => by simpa [List.map_append] using hh) ?_
    refine .opp (P.asg .t0) rfl ?_
    refine .nil ?_
    refine .then ?_
    refine .ret ?_
    cases h
    exact .finw u5 (.r1 rfl (.tmp .g0)) trivial (Ls.of (.cons .k0 .nil)) .nil
attribute [irreducible] slices_Clone_audit_Use
noncomputable def audit_Twice_1_c (a0 : audit_Use) (a1 : List (Int × Bool)) : Bool :=
  !((mget a0.Leaf a1).getD (false : Bool))
set_option maxRecDepth 20000 in
set_option maxHeartbeats 1000000 in
theorem S_audit_Twice_1_c (a0 : audit_Use) (b01 r01 : Nat) (a1 : List (Int × Bool)) (r : Bool) (h : audit_Twice_1_c a0 a1 = r) :
    SpecF Try.prog 24 [Ag (audit_Use.cs a0), pt b01 0] [blk b01 64 [(.map (some r01))], mpo (fun (x : Int) => N x) (fun (x : Bool) => Bo x) r01 a1] [] (fun z : Unit => True) (fun z => Bo r) (fun z M => blk b01 64 [(.map (some r01))] :: mpo (fun (x : Int) => N x) (fun (x : Bool) => Bo x) r01 a1 ::  M) (fun z M =>  M) := by
  refine .of func24 rfl ntmps24 rfl fun w0 D0 G0 => ?_
  unfold audit_Twice_1_c at h
  refine .seq ?_
  refine .reg rfl ?_
  refine .opx (X.box (cs := (audit_Use.cs a0)) .t0 rfl) rfl fun b1 => ?_
  refine .op0 (OpP.toV (P.asg .k)) rfl ?_
  refine .nil ?_
  refine .then ?_
  refine .seq ?_
  refine .reg rfl ?_
  refine .op (V.ld (v := .map (some r01)) .t1 .k1 (.one isAgg64 rfl)) rfl ?_
  refine .opp (P.fa .t1 fa_43_0 rfl) rfl ?_
  refine .op (V.ld (v := N a0.Leaf) .t0 .k0 (.one isAgg3 rfl)) rfl ?_
  refine .op (V.mlk1 (f := (fun (x : Int) => N x)) (g := (fun (x : Bool) => Bo x)) (xs := a1) (k := a0.Leaf) (z0 := false) keyInt .t0 .t0 .k2 underlying64 underlying3 zeroValue4) rfl ?_
  refine .opp (P.not .t0) rfl ?_
  refine .opp (P.asg .t0) rfl ?_
  refine .nil ?_
  refine .then ?_
  refine .ret ?_
  subst h
  exact .finw () (.r1 rfl (.tmp .g0)) trivial (Ls.of (.cons .k1 (.cons .k1 .nil))) .nil
attribute [irreducible] audit_Twice_1_c
noncomputable def slices_IndexFunc_audit_Use_audit_Twice_1 (a0 : List audit_Use) (a1a : List (Int × Bool)) : Option (Int) :=
  Option.bind (loopR (fun (i1 : Nat) (e4 : audit_Use) (s2 : Unit) => if (audit_Twice_1_c e4 a1a) = true then (Option.map Ct.rt (some (i1 : Int))) else (some (.nx ()))) 0 a0 ()) fun o5 => Lo.on o5 fun (s2 : Unit) => some (-1)
set_option maxRecDepth 20000 in
set_option maxHeartbeats 1000000 in
theorem S_slices_IndexFunc_audit_Use_audit_Twice_1 (v00 : Value) (a0 : List audit_Use) (b01a r01a : Nat) (a1a : List (Int × Bool)) (r : Int) (h : slices_IndexFunc_audit_Use_audit_Twice_1 a0 a1a = some r) :
    SpecF Try.prog 38 [v00, fnv 24 [pt b01a 0]] [blk b01a 64 [(.map (some r01a))], mpo (fun (x : Int) => N x) (fun (x : Bool) => Bo x) r01a a1a] [rows 7 v00 (a0.map audit_Use.cs)] (fun z : Unit => True) (fun z => N r) (fun z M => blk b01a 64 [(.map (some r01a))] :: mpo (fun (x : Int) => N x) (fun (x : Bool) => Bo x) r01a a1a ::  M) (fun z M =>  M) := by
  refine .of func38 rfl ntmps38 rfl fun w0 D0 G0 => ?_
  unfold slices_IndexFunc_audit_Use_audit_Twice_1 at h
  refine .seq ?_
  refine .reg rfl ?_
  refine .op0 (OpP.toV (P.asg .k)) rfl ?_
  refine .nil ?_
  refine .then ?_
  refine .seq ?_
  refine .seq ?_
  refine .reg rfl ?_
  refine .opp (P.mov .g0) rfl ?_
  refine .op (V.lnr (n := a0.length) .t0 Mm.m0 map_len runUnderlying24) rfl ?_
  refine .opp (P.mov .k) rfl ?_
  refine .nil ?_
  refine .then ?_
  refine .block ?_
  obtain ⟨o5, ho6, h⟩ := bnd_eq h
  refine .lenq Mm.m0 fun hl12 => ?_
  rw [map_len] at hl12
  refine .loopR (γ := Unit) (fun i1 (s2 : Unit) z3 => [(8, N (i1 : Int)), (7, N (a0.length : Int)), (0, v00), (1, fnv 24 [pt b01a 0])]) (fun (s2 : Unit) z3 => [blk b01a 64 [(.map (some r01a))], mpo (fun (x : Int) => N x) (fun (x : Bool) => Bo x) r01a a1a]) (fun (s2 : Unit) z3 => [rows 7 v00 (a0.map audit_Use.cs)]) () ho6 (.cons Mm.m0 (.cons Mm.m1 (.cons Mm.m2 (.cons Mm.m3 .nil)))) (.of (.cons .k0 (.cons .k0 .nil))) (.cons Mm.m0 .nil) (fun i1 s2 z3 hi13 hr9 => ?_)
  refine .seq ?_
  refine .reg rfl ?_
  refine .opp (P.bin (v := Bo (decide ((i1 : Int) < (a0.length : Nat)))) .g0 .g1 .lss) rfl ?_
  refine .nil ?_
  refine .then ?_
  refine .seq ?_
  refine .cond .t0 (fun c14 => ?_) (fun c14 => ?_)
  · obtain ⟨e4, hx11⟩ := get_of c14
    obtain ⟨ct10, hc7, hn8⟩ := loopR_at hx11 hr9
    refine .skip ?_
    refine .then ?_
    refine .seq ?_
    refine .block ?_
    refine .seq ?_
    refine .reg rfl ?_
    refine .opp (P.mov .g0) rfl ?_
    refine .opp (P.asg .t0) rfl ?_
    refine .nil ?_
    refine .then ?_
    refine .seq ?_
    refine .reg rfl ?_
    refine .opp (P.mov .g4) rfl ?_
    refine .opp (P.mov .g4) rfl ?_
    refine .opp (P.mov .g2) rfl ?_
    refine .ixq Mm.m0 (map_get hx11) fun p15 q16 hq17 => ?_
    refine .opp (P.ixi (i := i1) .t0 rfl .t0 hq17 runUnderlying24 sizeOf43) rfl ?_
    refine .op (V.ldx0 (u := Ag (audit_Use.cs e4)) .t0 hq17 Mm.m0 (map_get hx11) (.agg isAgg43 sizeOf43 rfl rfl)) rfl ?_
    refine .opg (G.callv call24 .t1 (.cons .t0 .nil) (S_audit_Twice_1_c e4 b01a r01a a1a _ rfl) (.cons .k0 (.cons .k0 .nil)) .nil (fun _ _ => rfl) (fun _ _ => rfl) rfl) rfl fun _ _ => ?_
    refine .nil ?_
    refine .then ?_
    refine .cond .t0 (fun c18 => ?_) (fun c18 => ?_)
    · rw [if_pos c18] at hc7
      refine .seq ?_
      refine .reg rfl ?_
      refine .opp (P.mov .t0) rfl ?_
      refine .opp (P.asg .t0) rfl ?_
      refine .nil ?_
      refine .then ?_
      refine .ret ?_
      refine .inr ?_
      refine .thr ?_
      obtain ⟨x19, hx20, rfl⟩ := map_rt hc7
      obtain rfl := hn8
      obtain rfl := rt_on h
      refine .thr ?_
      refine .inr ?_
      refine .thr ?_
      cases hx20
      exact .finw () (.r1 rfl (.tmp .g0)) trivial (Ls.of (.cons .k0 (.cons .k0 .nil))) .nil
    · rw [if_neg (ne_true_of_eq_false c18)] at hc7
      refine .skip ?_
      refine .inn ?_
      refine .then ?_
      refine .reg rfl ?_
      refine .opp (P.bin .g1 .k (.addc (inc_ok (lt_of_get hx11) hl12))) rfl ?_
      refine .drop .k2 ?_
      refine .opp (P.mov .t0) rfl ?_
      refine .nil ?_
      cases hc7
      exact .rdR () () hn8 (lt_of_get hx11) (.cons Mm.m0 (.cons Mm.m2 (.cons Mm.m3 (.cons Mm.m4 .nil)))) (.of (.cons .k0 (.cons .k0 .nil))) (.cons Mm.m0 .nil)
  · obtain rfl := loopR_end (le_of_not c14) hr9
    have h := dn_on h
    refine .exit ?_
    refine .thx ?_
    refine .thx ?_
    refine .inb ?_
    refine .then ?_
    refine .seq ?_
    refine .reg rfl ?_
    refine .opp (P.asg .k) rfl ?_
    refine .nil ?_
    refine .then ?_
    refine .ret ?_
    cases h
    exact .finw () (.r1 rfl (.tmp .g0)) trivial (Ls.of (.cons .k0 (.cons .k0 .nil))) .nil
attribute [irreducible] slices_IndexFunc_audit_Use_audit_Twice_1
noncomputable def slices_DeleteFunc_audit_Use_o_audit_Twice_1 (a0 : List audit_Use) (a1a : List (Int × Bool)) : Option ((List audit_Use)) :=
  Option.bind (slices_IndexFunc_audit_Use_audit_Twice_1 a0 a1a) fun r1 => if (decide (r1 = (-1))) = true then (some a0) else (Option.bind (loopW (fun (s4 : Int × Int × (List audit_Use)) => if (decide (s4.1 < (s4.2.2.length : Int))) = true then (Option.bind (Option.bind (at_ s4.2.2 s4.1) fun (x20 : audit_Use) => if (!(audit_Twice_1_c x20 a1a)) = true then (Option.bind (at_ s4.2.2 s4.2.1) fun (x29 : audit_Use) => some ((IntKind.i64.wrap (s4.2.1 + 1), (s4.2.2.set (s4.2.1).toNat (x20 : audit_Use))))) else (some (s4.2.1, s4.2.2))) fun (y14 : Int × (List audit_Use)) => some (.nx ((IntKind.i64.wrap (s4.1 + 1), y14.1, y14.2)))) else (some (.br (s4.1, s4.2.1, s4.2.2)))) ((IntKind.i64.wrap (r1 + 1), r1, a0))) fun o6 => Lo.on o6 fun (s4 : Int × Int × (List audit_Use)) => grd (0 ≤ s4.2.1 ∧ s4.2.1 ≤ s4.2.2.length) <| grd (0 ≤ s4.2.1 ∧ s4.2.1 ≤ ((s4.2.2.take (s4.2.1).toNat) ++ List.replicate (s4.2.2.length - (s4.2.1).toNat) (⟨0, 0, ⟨#[]⟩, ⟨0, 0, 0, 0⟩⟩ : audit_Use)).length) <| some ((((s4.2.2.take (s4.2.1).toNat) ++ List.replicate (s4.2.2.length - (s4.2.1).toNat) (⟨0, 0, ⟨#[]⟩, ⟨0, 0, 0, 0⟩⟩ : audit_Use)).take (s4.2.1).toNat)))
set_option maxRecDepth 20000 in
set_option maxHeartbeats 1000000 in
theorem S_slices_DeleteFunc_audit_Use_o_audit_Twice_1 (v00 : Value) (a0 : List audit_Use) (b01a r01a : Nat) (a1a : List (Int × Bool)) (r : (List audit_Use)) (h : slices_DeleteFunc_audit_Use_o_audit_Twice_1 a0 a1a = some r) :
    SpecF Try.prog 22 [v00, fnv 24 [pt b01a 0]] [lst 43 7 v00 (a0.map audit_Use.cs), blk b01a 64 [(.map (some r01a))], mpo (fun (x : Int) => N x) (fun (x : Bool) => Bo x) r01a a1a] [] (fun z : Value => True) (fun z => z) (fun z M => blk b01a 64 [(.map (some r01a))] :: mpo (fun (x : Int) => N x) (fun (x : Bool) => Bo x) r01a a1a :: lst 43 7 z (r.map audit_Use.cs) ::  M) (fun z M =>  M) := by
  refine .of func22 rfl ntmps22 rfl fun w0 D0 G0 => ?_
  unfold slices_DeleteFunc_audit_Use_o_audit_Twice_1 at h
  refine .seq ?_
  refine .reg rfl ?_
  refine .op0 (OpP.toV (P.asg .k)) rfl ?_
  refine .nil ?_
  refine .then ?_
  refine .seq ?_
  refine .reg rfl ?_
  refine .opp (P.mov .g0) rfl ?_
  refine .opp (P.mov .g2) rfl ?_
  obtain ⟨r1, hr2, h⟩ := bnd_eq h
  refine .opg (G.calll call38 (.cons .t1 (.cons .t0 .nil)) (S_slices_IndexFunc_audit_Use_audit_Twice_1 v00 a0 b01a r01a a1a r1 hr2) (.cons .k1 (.cons .k1 .nil)) (.imp (List.mem_append_right _ Mm.m0) (fun _ => lst_rows) .nil) (fun _ _ => rfl) rfl) rfl fun _ _ => ?_
  refine .opp (P.asg .t0) rfl ?_
  refine .nil ?_
  refine .then ?_
  refine .seq ?_
  refine .seq ?_
  refine .reg rfl ?_
  refine .opp (P.mov .g0) rfl ?_
  refine .opp (P.bin .t0 .k .eql) rfl ?_
  refine .nil ?_
  refine .then ?_
  refine .cond .t0 (fun c3 => ?_) (fun c3 => ?_)
  · rw [if_pos c3] at h
    refine .seq ?_
    refine .reg rfl ?_
    refine .opp (P.mov .t1) rfl ?_
    refine .opp (P.asg .t0) rfl ?_
    refine .nil ?_
    refine .then ?_
    refine .ret ?_
    refine .thr ?_
    cases h
    exact .finw v00 (.r1 rfl (.tmp .g0)) trivial (Ls.of (.cons .k0 (.cons .k0 (.cons .k0 .nil)))) .nil
  · rw [if_neg (ne_true_of_eq_false c3)] at h
    refine .skip ?_
    refine .then ?_
    refine .seq ?_
    refine .seq ?_
    refine .reg rfl ?_
    refine .opp (P.mov .g0) rfl ?_
    refine .opp (P.bin .t0 .k .add) rfl ?_
    refine .opp (P.asg .t0) rfl ?_
    refine .nil ?_
    refine .then ?_
    refine .block ?_
    obtain ⟨o6, ho7, h⟩ := bnd_eq h
    refine .loopW (γ := Unit) (fun (s4 : Int × Int × (List audit_Use)) z5 => [(6, N s4.1), (5, N s4.2.1), (0, v00), (1, fnv 24 [pt b01a 0])]) (fun (s4 : Int × Int × (List audit_Use)) z5 => [blk b01a 64 [(.map (some r01a))], mpo (fun (x : Int) => N x) (fun (x : Bool) => Bo x) r01a a1a, lst 43 7 v00 (s4.2.2.map audit_Use.cs)]) (fun (s4 : Int × Int × (List audit_Use)) z5 => []) () ho7 (.cons Mm.m0 (.cons Mm.m1 (.cons Mm.m2 (.cons Mm.m3 .nil)))) (.of (.cons .k0 (.cons .k0 (.cons .k0 .nil)))) .nil (fun n12 s4 z5 hr10 => ?_)
    obtain ⟨ct11, hc8, hn9⟩ := loopK_at hr10
    refine .seq ?_
    refine .seq ?_
    refine .reg rfl ?_
    refine .opp (P.mov .g0) rfl ?_
    refine .opp (P.mov .g3) rfl ?_
    refine .op (V.lnl (n := s4.2.2.length) .t0 .k2 map_len runUnderlying24) rfl ?_
    refine .opp (P.bin .t1 .t0 .lss) rfl ?_
    refine .nil ?_
    refine .then ?_
    refine .cond .t0 (fun c13 => ?_) (fun c13 => ?_)
    · rw [if_pos c13] at hc8
      refine .skip ?_
      refine .then ?_
      obtain ⟨y14, hj16, hc8⟩ := bnd_eq hc8
      refine .cutx (γ := Unit) (E1 := fun z15 => [(5, N y14.1), (6, N s4.1), (0, v00), (1, fnv 24 [pt b01a 0])]) (L1 := fun z15 => [blk b01a 64 [(.map (some r01a))], mpo (fun (x : Int) => N x) (fun (x : Bool) => Bo x) r01a a1a, lst 43 7 v00 (y14.2.map audit_Use.cs)]) (R1 := fun z15 => []) ?_ (fun z15 => ?_)
      · clear hc8
        refine .block ?_
        refine .seq ?_
        refine .reg rfl ?_
        refine .opp (P.mov .g2) rfl ?_
        refine .opp (P.mov .g1) rfl ?_
        obtain ⟨x20, hx21, hj16⟩ := bnd_eq hj16
        obtain ⟨i22, hi23, hx21⟩ := at_eq hx21
        have hi23_ : (s4.1).toNat = i22 := by rw [hi23]; rfl
        refine .ixql .k2 (map_get hx21) fun p17 q18 hq19 => ?_
        refine .opp (P.ixi (i := i22) .t0 hi23 .t0 hq19 runUnderlying24 sizeOf43) rfl ?_
        refine .op (V.ldxl0 (u := Ag (audit_Use.cs x20)) .t0 hq19 .k2 (map_get hx21) (.agg isAgg43 sizeOf43 rfl rfl)) rfl ?_
        refine .opx (X.alc (cs := (audit_Use.cs ⟨0, 0, ⟨#[]⟩, ⟨0, 0, 0, 0⟩⟩)) zeroValue43 rfl) rfl fun b24 => ?_
        refine .opg (G.str .t1 .g0 .k0 (.mk (cs' := (audit_Use.cs x20)) sizeOf43 rfl rfl rfl rfl)) rfl fun _ _ => ?_
        refine .nil ?_
        refine .then ?_
        refine .seq ?_
        refine .reg rfl ?_
        refine .opp (P.mov .g4) rfl ?_
        refine .op (V.ld (v := Ag (audit_Use.cs x20)) .g1 .k0 (.agg isAgg43 sizeOf43 rfl rfl)) rfl ?_
        refine .opg (G.callv call24 .t1 (.cons .t0 .nil) (S_audit_Twice_1_c x20 b01a r01a a1a _ rfl) (.cons .k1 (.cons .k1 .nil)) .nil (fun _ _ => rfl) (fun _ _ => rfl) rfl) rfl fun _ _ => ?_
        refine .opp (P.not .t0) rfl ?_
        refine .nil ?_
        refine .then ?_
        refine .cond .t0 (fun c25 => ?_) (fun c25 => ?_)
        · rw [if_pos c25] at hj16
          refine .seq ?_
          refine .reg rfl ?_
          refine .opp (P.mov .g3) rfl ?_
          refine .opp (P.mov .g3) rfl ?_
          refine .op (V.ld (v := Ag (audit_Use.cs x20)) .t2 .k2 (.agg isAgg43 sizeOf43 rfl rfl)) rfl ?_
          obtain ⟨x29, hx30, hj16⟩ := bnd_eq hj16
          obtain ⟨i31, hi32, hx30⟩ := at_eq hx30
          have hi32_ : (s4.2.1).toNat = i31 := by rw [hi32]; rfl
          refine .ixql .k3 (map_get hx30) fun p26 q27 hq28 => ?_
          refine .opp (P.ixi (i := i31) .t1 hi32 .t1 hq28 runUnderlying24 sizeOf43) rfl ?_
          refine .opg (G.stx (off := q27) (k := 0) (cs' := (audit_Use.cs x20)) .t1 .t0 hq28 .k3 (map_get hx30) (.mk sizeOf43 rfl rfl rfl rfl)) rfl fun _ _ => ?_
          refine .conseq .k0 (q := lst 43 7 v00 ((s4.2.2.set (s4.2.1).toNat (x20 : audit_Use)).map audit_Use.cs)) (fun _ h_ => by rw [hi32_]; simpa [List.map_set] using h_) ?_
          refine .nil ?_
          refine .then ?_
          refine .reg rfl ?_
          refine .opp (P.mov .g1) rfl ?_
          refine .opp (P.bin .t0 .k .add) rfl ?_
          refine .drop .k2 ?_
          refine .opp (P.asg .t0) rfl ?_
          refine .nil ?_
          refine .inn ?_
          cases hj16
          exact .stj () (.cons Mm.m0 (.cons Mm.m1 (.cons Mm.m2 (.cons Mm.m3 .nil)))) (.of (.cons .k1 (.cons .k1 (.cons .k0 .nil)))) .nil
        · rw [if_neg (ne_true_of_eq_false c25)] at hj16
          refine .skip ?_
          refine .inn ?_
          cases hj16
          exact .stj () (.cons Mm.m2 (.cons Mm.m1 (.cons Mm.m3 (.cons Mm.m4 .nil)))) (.of (.cons .k0 (.cons .k0 (.cons .k1 .nil)))) .nil
      · clear hj16
        refine .reg rfl ?_
        refine .opp (P.mov .g1) rfl ?_
        refine .opp (P.bin .t0 .k .add) rfl ?_
        refine .drop .k2 ?_
        refine .opp (P.asg .t0) rfl ?_
        refine .nil ?_
        cases hc8
        obtain ⟨m33, hm34, hn9⟩ := hn9
        exact .rdW ((IntKind.i64.wrap (s4.1 + 1), y14.1, y14.2)) () hm34 hn9 (.cons Mm.m0 (.cons Mm.m1 (.cons Mm.m2 (.cons Mm.m3 .nil)))) (.of (.cons .k0 (.cons .k0 (.cons .k0 .nil)))) .nil
    · rw [if_neg (ne_true_of_eq_false c13)] at hc8
      refine .exit ?_
      refine .thx ?_
      cases hc8
      refine .told (γ := Unit) h hn9 (fun (s4 : Int × Int × (List audit_Use)) _ => [(6, N s4.1), (5, N s4.2.1), (0, v00), (1, fnv 24 [pt b01a 0])]) (fun (s4 : Int × Int × (List audit_Use)) _ => [blk b01a 64 [(.map (some r01a))], mpo (fun (x : Int) => N x) (fun (x : Bool) => Bo x) r01a a1a, lst 43 7 v00 (s4.2.2.map audit_Use.cs)]) (fun (s4 : Int × Int × (List audit_Use)) _ => []) () (.cons Mm.m0 (.cons Mm.m1 (.cons Mm.m2 (.cons Mm.m3 .nil)))) (.of (.cons .k0 (.cons .k0 (.cons .k0 .nil)))) .nil (fun s4 _ h' => ?_)
      replace h := h'
      refine .thx ?_
      refine .inb ?_
      refine .then ?_
      refine .seq ?_
      refine .reg rfl ?_
      refine .opp (P.mov .g2) rfl ?_
      refine .opp (P.mov .g2) rfl ?_
      obtain ⟨hb37, h⟩ := grd_eq h
      refine .opg (G.slt (m := s4.2.1) .t1 .t0 .k2 runUnderlying24 sizeOf43 hb37.1 (by simpa using hb37.2) rfl) rfl fun u35 hq36 => ?_
      have hm38 : (s4.2.1).toNat ≤ s4.2.2.length := by have := hb37; omega
      refine .opg (G.clr (cs := (audit_Use.cs ⟨0, 0, ⟨#[]⟩, ⟨0, 0, 0, 0⟩⟩)) (m := (s4.2.1).toNat) .t0 (by simpa using hq36) .k2 runUnderlying24 zeroValue43 rfl rfl rfl rfl (by simpa using hm38)) rfl fun _ _ => ?_
      refine .conseq .k0 (q := lst 43 7 v00 (((s4.2.2.take (s4.2.1).toNat) ++ List.replicate (s4.2.2.length - (s4.2.1).toNat) (⟨0, 0, ⟨#[]⟩, ⟨0, 0, 0, 0⟩⟩ : audit_Use)).map audit_Use.cs)) (fun _ hh => by simpa [List.map_take, List.map_replicate, List.map_append] using hh) ?_
      refine .nil ?_
      refine .then ?_
      refine .seq ?_
      refine .reg rfl ?_
      refine .opp (P.mov .t2) rfl ?_
      refine .opp (P.mov .t2) rfl ?_
      obtain ⟨hb40, h⟩ := grd_eq h
      refine .opg (G.sll (m := s4.2.1) .t1 .t0 .k0 runUnderlying24 sizeOf43 hb40.1 (by simpa using hb40.2) rfl) rfl fun u39 _ => ?_
      refine .conseq .k0 (q := lst 43 7 u39 ((((s4.2.2.take (s4.2.1).toNat) ++ List.replicate (s4.2.2.length - (s4.2.1).toNat) (⟨0, 0, ⟨#[]⟩, ⟨0, 0, 0, 0⟩⟩ : audit_Use)).take (s4.2.1).toNat).map audit_Use.cs)) (fun _ hh => by simpa using hh) ?_
      refine .opp (P.asg .t0) rfl ?_
      refine .nil ?_
      refine .then ?_
      refine .ret ?_
      cases h
      exact .finw u39 (.r1 rfl (.tmp .g0)) trivial (Ls.of (.cons .k1 (.cons .k1 (.cons .k0 .nil)))) .nil
attribute [irreducible] slices_DeleteFunc_audit_Use_o_audit_Twice_1
noncomputable def audit_Twice (a0 : List audit_Use) : Option ((List audit_Use)) :=
  Option.bind (loopR (fun (i4 : Nat) (e7 : audit_Use) (s5 : (List (Int × audit_Use)) × (List (Int × Bool))) => thn (thn (thn (if (mget e7.Leaf s5.1).isSome = true then (decide ((((mget e7.Leaf s5.1).getD (⟨0, 0, ⟨#[]⟩, ⟨0, 0, 0, 0⟩⟩ : audit_Use)) : audit_Use) ≠ (e7 : audit_Use))) else false) fun (y29 : Bool) => if y29 = true then ((mset (e7.Leaf : Int) (true : Bool) s5.2)) else s5.2) fun (y25 : (List (Int × Bool))) => if (!(mget e7.Leaf s5.1).isSome) = true then (((mset (e7.Leaf : Int) (e7 : audit_Use) s5.1), y25)) else (s5.1, y25)) fun (y18 : (List (Int × audit_Use)) × (List (Int × Bool))) => some (.nx (y18.1, y18.2))) 0 a0 ([], [])) fun o8 => Lo.on o8 fun (s5 : (List (Int × audit_Use)) × (List (Int × Bool))) => Option.bind (slices_Clone_audit_Use a0) fun r36 => Option.bind (slices_DeleteFunc_audit_Use_o_audit_Twice_1 r36 s5.2) fun r39 => some r39
set_option maxRecDepth 20000 in
set_option maxHeartbeats 1000000 in
theorem S_audit_Twice (v00 : Value) (a0 : List audit_Use) (r : (List audit_Use)) (h : audit_Twice a0 = some r) :
    SpecF Try.prog 9 [v00] [] [rows 7 v00 (a0.map audit_Use.cs)] (fun z : Value => True) (fun z => z) (fun z M => lst 43 7 z (r.map audit_Use.cs) ::  M) (fun z M =>  M) := by
  refine .of func9 rfl ntmps9 rfl fun w0 D0 G0 => ?_
  unfold audit_Twice at h
  refine .seq ?_
  refine .reg rfl ?_
  refine .op0 (OpP.toV (P.asg .k)) rfl ?_
  refine .nil ?_
  refine .then ?_
  refine .seq ?_
  refine .reg rfl ?_
  refine .opx (X.mkm (f := (fun (x : Int) => N x)) (g := (fun (x : audit_Use) => Ag x.cs))) rfl fun b1 => ?_
  refine .opp (P.asg .t0) rfl ?_
  refine .nil ?_
  refine .then ?_
  refine .seq ?_
  refine .reg rfl ?_
  refine .opx (X.mkm (f := (fun (x : Int) => N x)) (g := (fun (x : Bool) => Bo x))) rfl fun b2 => ?_
  refine .opx (X.alc (cs := [(.map none)]) zeroValue64 rfl) rfl fun b3 => ?_
  refine .opg (G.str .t1 .g0 .k0 (.mk (cs' := [(.map (some b2))]) sizeOf64 rfl rfl rfl rfl)) rfl fun _ _ => ?_
  refine .nil ?_
  refine .then ?_
  refine .seq ?_
  refine .seq ?_
  refine .reg rfl ?_
  refine .opp (P.mov .g2) rfl ?_
  refine .op (V.lnr (n := a0.length) .g0 Mm.m0 map_len runUnderlying24) rfl ?_
  refine .opp (P.mov .k) rfl ?_
  refine .nil ?_
  refine .then ?_
  refine .block ?_
  obtain ⟨o8, ho9, h⟩ := bnd_eq h
  refine .lenq Mm.m0 fun hl15 => ?_
  rw [map_len] at hl15
  refine .loopR (γ := Unit) (fun i4 (s5 : (List (Int × audit_Use)) × (List (Int × Bool))) z6 => [(15, N (i4 : Int)), (14, N (a0.length : Int)), (13, v00), (4, pt b3 0), (3, .map (some b1)), (0, v00)]) (fun (s5 : (List (Int × audit_Use)) × (List (Int × Bool))) z6 => [blk b3 64 [(.map (some b2))], mpo (fun (x : Int) => N x) (fun (x : audit_Use) => Ag x.cs) b1 s5.1, mpo (fun (x : Int) => N x) (fun (x : Bool) => Bo x) b2 s5.2]) (fun (s5 : (List (Int × audit_Use)) × (List (Int × Bool))) z6 => [rows 7 v00 (a0.map audit_Use.cs)]) () ho9 (.cons Mm.m0 (.cons Mm.m1 (.cons Mm.m2 (.cons Mm.m3 (.cons Mm.m4 (.cons Mm.m5 .nil)))))) (.of (.cons .k0 (.cons .k1 (.cons .k0 .nil)))) (.cons Mm.m0 .nil) (fun i4 s5 z6 hi16 hr12 => ?_)
  refine .seq ?_
  refine .reg rfl ?_
  refine .opp (P.bin (v := Bo (decide ((i4 : Int) < (a0.length : Nat)))) .g0 .g1 .lss) rfl ?_
  refine .nil ?_
  refine .then ?_
  refine .seq ?_
  refine .cond .t0 (fun c17 => ?_) (fun c17 => ?_)
  · obtain ⟨e7, hx14⟩ := get_of c17
    obtain ⟨ct13, hc10, hn11⟩ := loopR_at hx14 hr12
    refine .skip ?_
    refine .then ?_
    obtain ⟨y18, hj20, hc10⟩ := thn_eq hc10
    refine .cutx (γ := Unit) (E1 := fun z19 => [(15, N (i4 : Int)), (14, N (a0.length : Int)), (13, v00), (4, pt b3 0), (3, .map (some b1)), (0, v00)]) (L1 := fun z19 => [blk b3 64 [(.map (some b2))], mpo (fun (x : Int) => N x) (fun (x : audit_Use) => Ag x.cs) b1 y18.1, mpo (fun (x : Int) => N x) (fun (x : Bool) => Bo x) b2 y18.2]) (R1 := fun z19 => [rows 7 v00 (a0.map audit_Use.cs)]) ?_ (fun z19 => ?_)
    · clear hc10
      refine .block ?_
      refine .seq ?_
      refine .reg rfl ?_
      refine .ixq Mm.m0 (map_get hx14) fun p21 q22 hq23 => ?_
      refine .opp (P.ixi (i := i4) .g0 rfl .g2 hq23 runUnderlying24 sizeOf43) rfl ?_
      refine .op (V.ldx0 (u := Ag (audit_Use.cs e7)) .t0 hq23 Mm.m0 (map_get hx14) (.agg isAgg43 sizeOf43 rfl rfl)) rfl ?_
      refine .opx (X.alc (cs := (audit_Use.cs ⟨0, 0, ⟨#[]⟩, ⟨0, 0, 0, 0⟩⟩)) zeroValue43 rfl) rfl fun b24 => ?_
      refine .opg (G.str .t1 .g0 .k0 (.mk (cs' := (audit_Use.cs e7)) sizeOf43 rfl rfl rfl rfl)) rfl fun _ _ => ?_
      refine .nil ?_
      refine .then ?_
      obtain ⟨y25, hj27, hj20⟩ := thn_eq hj20
      refine .cutx (γ := Unit) (E1 := fun z26 => [(6, pt b24 0), (15, N (i4 : Int)), (14, N (a0.length : Int)), (13, v00), (4, pt b3 0), (3, .map (some b1)), (0, v00)]) (L1 := fun z26 => [blk b24 43 (audit_Use.cs e7), blk b3 64 [(.map (some b2))], mpo (fun (x : Int) => N x) (fun (x : audit_Use) => Ag x.cs) b1 s5.1, mpo (fun (x : Int) => N x) (fun (x : Bool) => Bo x) b2 y25]) (R1 := fun z26 => [rows 7 v00 (a0.map audit_Use.cs)]) ?_ (fun z26 => ?_)
      · clear hj20
        refine .seq ?_
        refine .reg rfl ?_
        refine .opp (P.mov .g5) rfl ?_
        refine .opp (P.fa .g1 fa_43_0 rfl) rfl ?_
        refine .op (V.ld (v := N e7.Leaf) .t0 .k0 (.one isAgg3 rfl)) rfl ?_
        refine .op (V.mlk (f := (fun (x : Int) => N x)) (g := (fun (x : audit_Use) => Ag x.cs)) (xs := s5.1) (k := e7.Leaf) (z0 := ⟨0, 0, ⟨#[]⟩, ⟨0, 0, 0, 0⟩⟩) keyInt .t0 .t0 .k2 underlying63 underlying3 zeroValue43) rfl ?_
        refine .opp (P.mov .t0) rfl ?_
        refine .opp (P.ext (v := Ag (audit_Use.cs ((mget e7.Leaf s5.1).getD (⟨0, 0, ⟨#[]⟩, ⟨0, 0, 0, 0⟩⟩ : audit_Use)))) .g0 rfl) rfl ?_
        refine .opp (P.ext (v := Bo (mget e7.Leaf s5.1).isSome) .t1 rfl) rfl ?_
        refine .opx (X.alc (cs := (audit_Use.cs ⟨0, 0, ⟨#[]⟩, ⟨0, 0, 0, 0⟩⟩)) zeroValue43 rfl) rfl fun b28 => ?_
        refine .opg (G.str .t2 .g0 .k0 (.mk (cs' := (audit_Use.cs ((mget e7.Leaf s5.1).getD (⟨0, 0, ⟨#[]⟩, ⟨0, 0, 0, 0⟩⟩ : audit_Use)))) sizeOf43 rfl rfl rfl rfl)) rfl fun _ _ => ?_
        refine .opp (P.asg .t1) rfl ?_
        refine .nil ?_
        refine .then ?_
        obtain ⟨y29, hj31, hj27⟩ := thn_eq hj27
        refine .cutx (γ := Unit) (E1 := fun z30 => [(31, Bo y29), (6, pt b24 0), (15, N (i4 : Int)), (14, N (a0.length : Int)), (13, v00), (4, pt b3 0), (3, .map (some b1)), (0, v00)]) (L1 := fun z30 => [blk b24 43 (audit_Use.cs e7), blk b3 64 [(.map (some b2))], mpo (fun (x : Int) => N x) (fun (x : audit_Use) => Ag x.cs) b1 s5.1, mpo (fun (x : Int) => N x) (fun (x : Bool) => Bo x) b2 s5.2]) (R1 := fun z30 => [rows 7 v00 (a0.map audit_Use.cs)]) ?_ (fun z30 => ?_)
        · clear hj27
          refine .reg rfl ?_
          refine .opp (P.mov .t0) rfl ?_
          refine .opp (P.mov .t0) rfl ?_
          refine .split .k0 (fun c32 => ?_) (fun c32 => ?_)
          · rw [if_pos c32] at hj31
            refine .gyes rfl .g0 ?_
            refine .op (V.ld (v := Ag (audit_Use.cs ((mget e7.Leaf s5.1).getD (⟨0, 0, ⟨#[]⟩, ⟨0, 0, 0, 0⟩⟩ : audit_Use)))) .t1 .k0 (.agg isAgg43 sizeOf43 rfl rfl)) rfl ?_
            refine .gyes rfl .g1 ?_
            refine .op (V.ld (v := Ag (audit_Use.cs e7)) .g2 .k1 (.agg isAgg43 sizeOf43 rfl rfl)) rfl ?_
            refine .gyes rfl .g2 ?_
            refine .opp (P.bin .t1 .t0 (eq_43_neq _ _)) rfl ?_
            refine .opp (P.pickT .t1 .t0) rfl ?_
            refine .nil ?_
            subst hj31
            exact .stj () (.cons Mm.m0 (.cons Mm.m1 (.cons Mm.m2 (.cons Mm.m3 (.cons Mm.m4 (.cons Mm.m5 (.cons Mm.m6 (.cons Mm.m7 .nil)))))))) (.of (.cons .k1 (.cons .k1 (.cons .k1 (.cons .k1 .nil))))) (.cons Mm.m0 .nil)
          · rw [if_neg (ne_true_of_eq_false c32)] at hj31
            refine .gno rfl .g0 rfl rfl ?_
            refine .gno rfl .g0 rfl rfl ?_
            refine .gno rfl .g0 rfl rfl ?_
            refine .opp (P.pickF .t0 .k) rfl ?_
            refine .nil ?_
            subst hj31
            exact .stj () (.cons Mm.m0 (.cons Mm.m2 (.cons Mm.m3 (.cons Mm.m4 (.cons Mm.m5 (.cons Mm.m6 (.cons Mm.m7 (.cons Mm.m8 .nil)))))))) (.of (.cons .k1 (.cons .k1 (.cons .k1 (.cons .k1 .nil))))) (.cons Mm.m0 .nil)
        · clear hj31
          refine .cond .t0 (fun c33 => ?_) (fun c33 => ?_)
          · rw [if_pos c33] at hj27
            refine .reg rfl ?_
            refine .op (V.ld (v := .map (some b2)) .g4 .k1 (.one isAgg64 rfl)) rfl ?_
            refine .opp (P.fa .g1 fa_43_0 rfl) rfl ?_
            refine .op (V.ld (v := N e7.Leaf) .t0 .k0 (.one isAgg3 rfl)) rfl ?_
            refine .opg (G.mup (f := (fun (x : Int) => N x)) (g := (fun (x : Bool) => Bo x)) (xs := s5.2) (k := (e7.Leaf : Int)) (y := (true : Bool)) keyInt .k .t0 .t0 .k3 underlying64 underlying3) rfl fun _ _ => ?_
            refine .nil ?_
            subst hj27
            exact .stj () (.cons Mm.m0 (.cons Mm.m1 (.cons Mm.m2 (.cons Mm.m3 (.cons Mm.m4 (.cons Mm.m5 (.cons Mm.m6 .nil))))))) (.of (.cons .k1 (.cons .k1 (.cons .k1 (.cons .k0 .nil))))) (.cons Mm.m0 .nil)
          · rw [if_neg (ne_true_of_eq_false c33)] at hj27
            refine .skip ?_
            subst hj27
            exact .stj () (.cons Mm.m0 (.cons Mm.m1 (.cons Mm.m2 (.cons Mm.m3 (.cons Mm.m4 (.cons Mm.m5 (.cons Mm.m6 .nil))))))) (.of (.cons .k0 (.cons .k0 (.cons .k0 (.cons .k0 .nil))))) (.cons Mm.m0 .nil)
      · clear hj27
        refine .seq ?_
        refine .reg rfl ?_
        refine .opp (P.mov .g5) rfl ?_
        refine .opp (P.fa .g1 fa_43_0 rfl) rfl ?_
        refine .op (V.ld (v := N e7.Leaf) .t0 .k0 (.one isAgg3 rfl)) rfl ?_
        refine .op (V.mlk (f := (fun (x : Int) => N x)) (g := (fun (x : audit_Use) => Ag x.cs)) (xs := s5.1) (k := e7.Leaf) (z0 := ⟨0, 0, ⟨#[]⟩, ⟨0, 0, 0, 0⟩⟩) keyInt .t0 .t0 .k2 underlying63 underlying3 zeroValue43) rfl ?_
        refine .opp (P.mov .t0) rfl ?_
        refine .opp (P.ext (v := Ag (audit_Use.cs ((mget e7.Leaf s5.1).getD (⟨0, 0, ⟨#[]⟩, ⟨0, 0, 0, 0⟩⟩ : audit_Use)))) .g0 rfl) rfl ?_
        refine .opp (P.ext (v := Bo (mget e7.Leaf s5.1).isSome) .t1 rfl) rfl ?_
        refine .opx (X.alc (cs := (audit_Use.cs ⟨0, 0, ⟨#[]⟩, ⟨0, 0, 0, 0⟩⟩)) zeroValue43 rfl) rfl fun b34 => ?_
        refine .opg (G.str .t2 .t0 .k0 (.mk (cs' := (audit_Use.cs ((mget e7.Leaf s5.1).getD (⟨0, 0, ⟨#[]⟩, ⟨0, 0, 0, 0⟩⟩ : audit_Use)))) sizeOf43 rfl rfl rfl rfl)) rfl fun _ _ => ?_
        refine .opp (P.asg .t0) rfl ?_
        refine .nil ?_
        refine .then ?_
        refine .seq ?_
        refine .reg rfl ?_
        refine .opp (P.mov .t0) rfl ?_
        refine .opp (P.not .t0) rfl ?_
        refine .nil ?_
        refine .then ?_
        refine .cond .t0 (fun c35 => ?_) (fun c35 => ?_)
        · rw [if_pos c35] at hj20
          refine .reg rfl ?_
          refine .opp (P.mov .g5) rfl ?_
          refine .opp (P.fa .g1 fa_43_0 rfl) rfl ?_
          refine .op (V.ld (v := N e7.Leaf) .t0 .k1 (.one isAgg3 rfl)) rfl ?_
          refine .op (V.ld (v := Ag (audit_Use.cs e7)) .t2 .k1 (.agg isAgg43 sizeOf43 rfl rfl)) rfl ?_
          refine .opg (G.mup (f := (fun (x : Int) => N x)) (g := (fun (x : audit_Use) => Ag x.cs)) (xs := s5.1) (k := (e7.Leaf : Int)) (y := (e7 : audit_Use)) keyInt .t0 .t0 .t0 .k3 underlying63 underlying3) rfl fun _ _ => ?_
          refine .nil ?_
          refine .inn ?_
          subst hj20
          exact .stj () (.cons Mm.m0 (.cons Mm.m1 (.cons Mm.m2 (.cons Mm.m3 (.cons Mm.m4 (.cons Mm.m5 .nil)))))) (.of (.cons .k3 (.cons .k0 (.cons .k2 .nil)))) (.cons Mm.m0 .nil)
        · rw [if_neg (ne_true_of_eq_false c35)] at hj20
          refine .skip ?_
          refine .inn ?_
          subst hj20
          exact .stj () (.cons Mm.m1 (.cons Mm.m2 (.cons Mm.m3 (.cons Mm.m4 (.cons Mm.m5 (.cons Mm.m6 .nil)))))) (.of (.cons .k2 (.cons .k2 (.cons .k2 .nil)))) (.cons Mm.m0 .nil)
    · clear hj20
      refine .reg rfl ?_
      refine .opp (P.bin .g0 .k (.addc (inc_ok (lt_of_get hx14) hl15))) rfl ?_
      refine .drop .k1 ?_
      refine .opp (P.mov .t0) rfl ?_
      refine .nil ?_
      cases hc10
      exact .rdR (y18.1, y18.2) () hn11 (lt_of_get hx14) (.cons Mm.m0 (.cons Mm.m1 (.cons Mm.m2 (.cons Mm.m3 (.cons Mm.m4 (.cons Mm.m5 .nil)))))) (.of (.cons .k0 (.cons .k0 (.cons .k0 .nil)))) (.cons Mm.m0 .nil)
  · obtain rfl := loopR_end (le_of_not c17) hr12
    have h := dn_on h
    refine .exit ?_
    refine .thx ?_
    refine .thx ?_
    refine .inb ?_
    refine .then ?_
    refine .seq ?_
    refine .reg rfl ?_
    refine .opp (P.mov .t5) rfl ?_
    obtain ⟨r36, hr37, h⟩ := bnd_eq h
    refine .opg (G.call call23 (.cons .t0 .nil) (S_slices_Clone_audit_Use v00 a0 r36 hr37) .nil (.cons Mm.m0 .nil) (fun _ _ => rfl) (fun _ _ => rfl) rfl) rfl fun u38 _ => ?_
    refine .opp (P.mkf (.cons .t4 .nil)) rfl ?_
    obtain ⟨r39, hr40, h⟩ := bnd_eq h
    refine .opg (G.call call22 (.cons .t1 (.cons .t0 .nil)) (S_slices_DeleteFunc_audit_Use_o_audit_Twice_1 u38 r36 b3 b2 s5.2 r39 hr40) (.cons .k0 (.cons .k0 (.cons .k1 .nil))) .nil (fun _ _ => rfl) (fun _ _ => rfl) rfl) rfl fun u41 _ => ?_
    refine .opp (P.asg .t0) rfl ?_
    refine .nil ?_
    refine .then ?_
    refine .ret ?_
    cases h
    exact .finw u41 (.r1 rfl (.tmp .g0)) trivial (Ls.of (.cons .k2 .nil)) .nil
attribute [irreducible] audit_Twice
noncomputable def slices_Index_string (a0 : List ByteArray) (a1 : ByteArray) : Option (Int) :=
  Option.bind (loopR (fun (i1 : Nat) (e4 : ByteArray) (s2 : Unit) => if (decide (a1 = e4)) = true then (Option.map Ct.rt (some (i1 : Int))) else (some (.nx ()))) 0 a0 ()) fun o5 => Lo.on o5 fun (s2 : Unit) => some (-1)
set_option maxRecDepth 20000 in
set_option maxHeartbeats 1000000 in
theorem S_slices_Index_string (v00 : Value) (a0 : List ByteArray) (a1 : ByteArray) (r : Int) (h : slices_Index_string a0 a1 = some r) :
    SpecF Try.prog 39 [v00, .string a1] [] [rows 1 v00 (a0.map (fun x => [.string x]))] (fun z : Unit => True) (fun z => N r) (fun z M =>  M) (fun z M =>  M) := by
  refine .of func39 rfl ntmps39 rfl fun w0 D0 G0 => ?_
  unfold slices_Index_string at h
  refine .seq ?_
  refine .reg rfl ?_
  refine .op0 (OpP.toV (P.asg .k)) rfl ?_
  refine .nil ?_
  refine .then ?_
  refine .seq ?_
  refine .seq ?_
  refine .reg rfl ?_
  refine .opp (P.mov .g0) rfl ?_
  refine .op (V.lnr (n := a0.length) .t0 Mm.m0 map_len runUnderlying47) rfl ?_
  refine .opp (P.mov .k) rfl ?_
  refine .nil ?_
  refine .then ?_
  refine .block ?_
  obtain ⟨o5, ho6, h⟩ := bnd_eq h
  refine .lenq Mm.m0 fun hl12 => ?_
  rw [map_len] at hl12
  refine .loopR (γ := Unit) (fun i1 (s2 : Unit) z3 => [(8, N (i1 : Int)), (7, N (a0.length : Int)), (0, v00), (1, .string a1)]) (fun (s2 : Unit) z3 => []) (fun (s2 : Unit) z3 => [rows 1 v00 (a0.map (fun x => [.string x]))]) () ho6 (.cons Mm.m0 (.cons Mm.m1 (.cons Mm.m2 (.cons Mm.m3 .nil)))) (.of .nil) (.cons Mm.m0 .nil) (fun i1 s2 z3 hi13 hr9 => ?_)
  refine .seq ?_
  refine .reg rfl ?_
  refine .opp (P.bin (v := Bo (decide ((i1 : Int) < (a0.length : Nat)))) .g0 .g1 .lss) rfl ?_
  refine .nil ?_
  refine .then ?_
  refine .seq ?_
  refine .cond .t0 (fun c14 => ?_) (fun c14 => ?_)
  · obtain ⟨e4, hx11⟩ := get_of c14
    obtain ⟨ct10, hc7, hn8⟩ := loopR_at hx11 hr9
    refine .skip ?_
    refine .then ?_
    refine .seq ?_
    refine .block ?_
    refine .seq ?_
    refine .reg rfl ?_
    refine .opp (P.mov .g0) rfl ?_
    refine .opp (P.asg .t0) rfl ?_
    refine .nil ?_
    refine .then ?_
    refine .seq ?_
    refine .reg rfl ?_
    refine .opp (P.mov .g4) rfl ?_
    refine .opp (P.mov .g4) rfl ?_
    refine .opp (P.mov .g2) rfl ?_
    refine .ixq Mm.m0 (map_get hx11) fun p15 q16 hq17 => ?_
    refine .opp (P.ixi (i := i1) .t0 rfl .t0 hq17 runUnderlying47 sizeOf9) rfl ?_
    refine .op (V.ldx0 (u := .string e4) .t0 hq17 Mm.m0 (map_get hx11) (.one isAgg9 rfl)) rfl ?_
    refine .opp (P.bin .t1 .t0 .str_eql) rfl ?_
    refine .nil ?_
    refine .then ?_
    refine .cond .t0 (fun c18 => ?_) (fun c18 => ?_)
    · rw [if_pos c18] at hc7
      refine .seq ?_
      refine .reg rfl ?_
      refine .opp (P.mov .t0) rfl ?_
      refine .opp (P.asg .t0) rfl ?_
      refine .nil ?_
      refine .then ?_
      refine .ret ?_
      refine .inr ?_
      refine .thr ?_
      obtain ⟨x19, hx20, rfl⟩ := map_rt hc7
      obtain rfl := hn8
      obtain rfl := rt_on h
      refine .thr ?_
      refine .inr ?_
      refine .thr ?_
      cases hx20
      exact .finw () (.r1 rfl (.tmp .g0)) trivial (Ls.of .nil) .nil
    · rw [if_neg (ne_true_of_eq_false c18)] at hc7
      refine .skip ?_
      refine .inn ?_
      refine .then ?_
      refine .reg rfl ?_
      refine .opp (P.bin .g1 .k (.addc (inc_ok (lt_of_get hx11) hl12))) rfl ?_
      refine .drop .k2 ?_
      refine .opp (P.mov .t0) rfl ?_
      refine .nil ?_
      cases hc7
      exact .rdR () () hn8 (lt_of_get hx11) (.cons Mm.m0 (.cons Mm.m2 (.cons Mm.m3 (.cons Mm.m4 .nil)))) (.of .nil) (.cons Mm.m0 .nil)
  · obtain rfl := loopR_end (le_of_not c14) hr9
    have h := dn_on h
    refine .exit ?_
    refine .thx ?_
    refine .thx ?_
    refine .inb ?_
    refine .then ?_
    refine .seq ?_
    refine .reg rfl ?_
    refine .opp (P.asg .k) rfl ?_
    refine .nil ?_
    refine .then ?_
    refine .ret ?_
    cases h
    exact .finw () (.r1 rfl (.tmp .g0)) trivial (Ls.of .nil) .nil
attribute [irreducible] slices_Index_string
noncomputable def slices_Contains_string (a0 : List ByteArray) (a1 : ByteArray) : Option (Bool) :=
  Option.bind (slices_Index_string a0 a1) fun r1 => some (decide (r1 ≥ 0))
set_option maxRecDepth 20000 in
set_option maxHeartbeats 1000000 in
theorem S_slices_Contains_string (v00 : Value) (a0 : List ByteArray) (a1 : ByteArray) (r : Bool) (h : slices_Contains_string a0 a1 = some r) :
    SpecF Try.prog 25 [v00, .string a1] [] [rows 1 v00 (a0.map (fun x => [.string x]))] (fun z : Unit => True) (fun z => Bo r) (fun z M =>  M) (fun z M =>  M) := by
  refine .of func25 rfl ntmps25 rfl fun w0 D0 G0 => ?_
  unfold slices_Contains_string at h
  refine .seq ?_
  refine .reg rfl ?_
  refine .op0 (OpP.toV (P.asg .k)) rfl ?_
  refine .nil ?_
  refine .then ?_
  refine .seq ?_
  refine .reg rfl ?_
  refine .opp (P.mov .t0) rfl ?_
  refine .opp (P.mov .t1) rfl ?_
  obtain ⟨r1, hr2, h⟩ := bnd_eq h
  refine .opg (G.call call39 (.cons .t1 (.cons .t0 .nil)) (S_slices_Index_string v00 a0 a1 r1 hr2) .nil (.cons Mm.m0 .nil) (fun _ _ => rfl) (fun _ _ => rfl) rfl) rfl fun _ _ => ?_
  refine .opp (P.bin .t0 .k .geq) rfl ?_
  refine .opp (P.asg .t0) rfl ?_
  refine .nil ?_
  refine .then ?_
  refine .ret ?_
  cases h
  exact .finw () (.r1 rfl (.tmp .g0)) trivial (Ls.of .nil) .nil
attribute [irreducible] slices_Contains_string
noncomputable def audit_Both (a0 : List audit_Use) : Option ((List ByteArray)) :=
  Option.bind (loopR (fun (i2 : Nat) (e5 : audit_Use) (s3 : (List (ByteArray × Int))) => thn (thn (if (decide (e5.Act = 1)) = true then true else (decide (e5.Act = 2))) fun (y23 : Bool) => if y23 = true then ((mset (e5.Key : ByteArray) (borK .i64 ((mget e5.Key s3).getD (0 : Int)) e5.Act : Int) s3)) else s3) fun (y16 : (List (ByteArray × Int))) => some (.nx y16)) 0 a0 ([])) fun o6 => Lo.on o6 fun (s3 : (List (ByteArray × Int))) => Option.bind (loopR (fun (i28 : Nat) (e31 : audit_Use) (s29 : (List ByteArray)) => Option.bind (Option.bind (if (decide (((mget e31.Key s3).getD (0 : Int)) = 3)) = true then (Option.bind (slices_Contains_string s29 e31.Key) fun r53 => some (!r53)) else (some false)) fun (y49 : Bool) => if y49 = true then (grd ((s29.length + ([e31.Key] : List ByteArray).length) * 16 ≤ 140737488355328) <| some ((s29 ++ ([e31.Key] : List ByteArray)))) else (some s29)) fun (y42 : (List ByteArray)) => some (.nx y42)) 0 a0 ([])) fun o32 => Lo.on o32 fun (s29 : (List ByteArray)) => some s29
set_option maxRecDepth 20000 in
set_option maxHeartbeats 1000000 in
theorem S_audit_Both (v00 : Value) (a0 : List audit_Use) (r : (List ByteArray)) (h : audit_Both a0 = some r) :
    SpecF Try.prog 10 [v00] [] [rows 7 v00 (a0.map audit_Use.cs)] (fun z : Value => True) (fun z => z) (fun z M => lst 9 1 z (r.map (fun x => [.string x])) ::  M) (fun z M =>  M) := by
  refine .of func10 rfl ntmps10 rfl fun w0 D0 G0 => ?_
  unfold audit_Both at h
  refine .seq ?_
  refine .reg rfl ?_
  refine .op0 (OpP.toV (P.asg .k)) rfl ?_
  refine .nil ?_
  refine .then ?_
  refine .seq ?_
  refine .reg rfl ?_
  refine .opx (X.mkm (f := (fun (x : ByteArray) => Value.string x)) (g := (fun (x : Int) => N x))) rfl fun b1 => ?_
  refine .opp (P.asg .t0) rfl ?_
  refine .nil ?_
  refine .then ?_
  refine .seq ?_
  refine .seq ?_
  refine .reg rfl ?_
  refine .opp (P.mov .g1) rfl ?_
  refine .op (V.lnr (n := a0.length) .g0 Mm.m0 map_len runUnderlying24) rfl ?_
  refine .opp (P.mov .k) rfl ?_
  refine .nil ?_
  refine .then ?_
  refine .block ?_
  obtain ⟨o6, ho7, h⟩ := bnd_eq h
  refine .lenq Mm.m0 fun hl13 => ?_
  rw [map_len] at hl13
  refine .loopR (γ := Unit) (fun i2 (s3 : (List (ByteArray × Int))) z4 => [(12, N (i2 : Int)), (11, N (a0.length : Int)), (10, v00), (3, .map (some b1)), (0, v00)]) (fun (s3 : (List (ByteArray × Int))) z4 => [mpo (fun (x : ByteArray) => Value.string x) (fun (x : Int) => N x) b1 s3]) (fun (s3 : (List (ByteArray × Int))) z4 => [rows 7 v00 (a0.map audit_Use.cs)]) () ho7 (.cons Mm.m0 (.cons Mm.m1 (.cons Mm.m2 (.cons Mm.m3 (.cons Mm.m4 .nil))))) (.of (.cons .k0 .nil)) (.cons Mm.m0 .nil) (fun i2 s3 z4 hi14 hr10 => ?_)
  refine .seq ?_
  refine .reg rfl ?_
  refine .opp (P.bin (v := Bo (decide ((i2 : Int) < (a0.length : Nat)))) .g0 .g1 .lss) rfl ?_
  refine .nil ?_
  refine .then ?_
  refine .seq ?_
  refine .cond .t0 (fun c15 => ?_) (fun c15 => ?_)
  · obtain ⟨e5, hx12⟩ := get_of c15
    obtain ⟨ct11, hc8, hn9⟩ := loopR_at hx12 hr10
    refine .skip ?_
    refine .then ?_
    obtain ⟨y16, hj18, hc8⟩ := thn_eq hc8
    refine .cutx (γ := Unit) (E1 := fun z17 => [(12, N (i2 : Int)), (11, N (a0.length : Int)), (10, v00), (3, .map (some b1)), (0, v00)]) (L1 := fun z17 => [mpo (fun (x : ByteArray) => Value.string x) (fun (x : Int) => N x) b1 y16]) (R1 := fun z17 => [rows 7 v00 (a0.map audit_Use.cs)]) ?_ (fun z17 => ?_)
    · clear hc8
      refine .block ?_
      refine .seq ?_
      refine .reg rfl ?_
      refine .ixq Mm.m0 (map_get hx12) fun p19 q20 hq21 => ?_
      refine .opp (P.ixi (i := i2) .g0 rfl .g2 hq21 runUnderlying24 sizeOf43) rfl ?_
      refine .op (V.ldx0 (u := Ag (audit_Use.cs e5)) .t0 hq21 Mm.m0 (map_get hx12) (.agg isAgg43 sizeOf43 rfl rfl)) rfl ?_
      refine .opx (X.alc (cs := (audit_Use.cs ⟨0, 0, ⟨#[]⟩, ⟨0, 0, 0, 0⟩⟩)) zeroValue43 rfl) rfl fun b22 => ?_
      refine .opg (G.str .t1 .g0 .k0 (.mk (cs' := (audit_Use.cs e5)) sizeOf43 rfl rfl rfl rfl)) rfl fun _ _ => ?_
      refine .nil ?_
      refine .then ?_
      obtain ⟨y23, hj25, hj18⟩ := thn_eq hj18
      refine .cutx (γ := Unit) (E1 := fun z24 => [(23, Bo y23), (5, pt b22 0), (12, N (i2 : Int)), (11, N (a0.length : Int)), (10, v00), (3, .map (some b1)), (0, v00)]) (L1 := fun z24 => [blk b22 43 (audit_Use.cs e5), mpo (fun (x : ByteArray) => Value.string x) (fun (x : Int) => N x) b1 s3]) (R1 := fun z24 => [rows 7 v00 (a0.map audit_Use.cs)]) ?_ (fun z24 => ?_)
      · clear hj18
        refine .reg rfl ?_
        refine .opp (P.fa .g0 fa_43_1 rfl) rfl ?_
        refine .op (V.ld (v := N e5.Act) .t0 .k0 (.one isAgg3 rfl)) rfl ?_
        refine .opp (P.bin .t0 .k .eql) rfl ?_
        refine .opp (P.mov .t0) rfl ?_
        refine .split .k0 (fun c26 => ?_) (fun c26 => ?_)
        · rw [if_pos c26] at hj25
          refine .gno rfl .g0 rfl rfl ?_
          refine .gno rfl .g0 rfl rfl ?_
          refine .gno rfl .g0 rfl rfl ?_
          refine .opp (P.pickT .t0 .k) rfl ?_
          refine .nil ?_
          subst hj25
          exact .stj () (.cons Mm.m0 (.cons Mm.m1 (.cons Mm.m2 (.cons Mm.m3 (.cons Mm.m4 (.cons Mm.m5 (.cons Mm.m6 .nil))))))) (.of (.cons .k0 (.cons .k0 .nil))) (.cons Mm.m0 .nil)
        · rw [if_neg (ne_true_of_eq_false c26)] at hj25
          refine .gyes rfl .g0 ?_
          refine .opp (P.fa .g1 fa_43_1 rfl) rfl ?_
          refine .gyes rfl .g1 ?_
          refine .op (V.ld (v := N e5.Act) .t0 .k0 (.one isAgg3 rfl)) rfl ?_
          refine .gyes rfl .g1 ?_
          refine .opp (P.bin .t0 .k .eql) rfl ?_
          refine .opp (P.pickF .t1 .t0) rfl ?_
          refine .nil ?_
          subst hj25
          exact .stj () (.cons Mm.m0 (.cons Mm.m1 (.cons Mm.m2 (.cons Mm.m3 (.cons Mm.m4 (.cons Mm.m5 (.cons Mm.m6 .nil))))))) (.of (.cons .k0 (.cons .k0 .nil))) (.cons Mm.m0 .nil)
      · clear hj25
        refine .cond .t0 (fun c27 => ?_) (fun c27 => ?_)
        · rw [if_pos c27] at hj18
          refine .reg rfl ?_
          refine .opp (P.mov .g4) rfl ?_
          refine .opp (P.fa .g1 fa_43_2 rfl) rfl ?_
          refine .op (V.ld (v := .string e5.Key) .t0 .k0 (.one isAgg9 rfl)) rfl ?_
          refine .op (V.mlk1 (f := (fun (x : ByteArray) => Value.string x)) (g := (fun (x : Int) => N x)) (xs := s3) (k := e5.Key) (z0 := 0) keyStr .g0 .g1 .k1 underlying67 underlying9 zeroValue3) rfl ?_
          refine .opp (P.fa .t3 fa_43_1 rfl) rfl ?_
          refine .op (V.ld (v := N e5.Act) .t0 .k0 (.one isAgg3 rfl)) rfl ?_
          refine .opp (P.bin .t1 .t0 .or) rfl ?_
          refine .opg (G.mup (f := (fun (x : ByteArray) => Value.string x)) (g := (fun (x : Int) => N x)) (xs := s3) (k := (e5.Key : ByteArray)) (y := (borK .i64 ((mget e5.Key s3).getD (0 : Int)) e5.Act : Int)) keyStr .t0 .t0 .t0 .k1 underlying67 underlying9) rfl fun _ _ => ?_
          refine .nil ?_
          refine .inn ?_
          subst hj18
          exact .stj () (.cons Mm.m0 (.cons Mm.m1 (.cons Mm.m2 (.cons Mm.m3 (.cons Mm.m4 .nil))))) (.of (.cons .k0 .nil)) (.cons Mm.m0 .nil)
        · rw [if_neg (ne_true_of_eq_false c27)] at hj18
          refine .skip ?_
          refine .inn ?_
          subst hj18
          exact .stj () (.cons Mm.m1 (.cons Mm.m2 (.cons Mm.m3 (.cons Mm.m4 (.cons Mm.m5 .nil))))) (.of (.cons .k1 .nil)) (.cons Mm.m0 .nil)
    · clear hj18
      refine .reg rfl ?_
      refine .opp (P.bin .g0 .k (.addc (inc_ok (lt_of_get hx12) hl13))) rfl ?_
      refine .drop .k1 ?_
      refine .opp (P.mov .t0) rfl ?_
      refine .nil ?_
      cases hc8
      exact .rdR y16 () hn9 (lt_of_get hx12) (.cons Mm.m0 (.cons Mm.m1 (.cons Mm.m2 (.cons Mm.m3 (.cons Mm.m4 .nil))))) (.of (.cons .k0 .nil)) (.cons Mm.m0 .nil)
  · obtain rfl := loopR_end (le_of_not c15) hr10
    have h := dn_on h
    refine .exit ?_
    refine .thx ?_
    refine .thx ?_
    refine .inb ?_
    refine .then ?_
    refine .seq ?_
    refine .reg rfl ?_
    refine .opp (P.asg .k) rfl ?_
    refine .nil ?_
    refine .then ?_
    refine .seq ?_
    refine .seq ?_
    refine .reg rfl ?_
    refine .opp (P.mov .t5) rfl ?_
    refine .op (V.lnr (n := a0.length) .g0 Mm.m0 map_len runUnderlying24) rfl ?_
    refine .opp (P.mov .k) rfl ?_
    refine .nil ?_
    refine .then ?_
    refine .block ?_
    refine .lnil 9 1 ?_
    obtain ⟨o32, ho33, h⟩ := bnd_eq h
    refine .lenq Mm.m0 fun hl39 => ?_
    rw [map_len] at hl39
    refine .loopR (γ := Value) (fun i28 (s29 : (List ByteArray)) z30 => [(34, N (i28 : Int)), (33, N (a0.length : Int)), (32, v00), (6, z30), (3, .map (some b1))]) (fun (s29 : (List ByteArray)) z30 => [mpo (fun (x : ByteArray) => Value.string x) (fun (x : Int) => N x) b1 s3, lst 9 1 z30 (s29.map (fun x => [.string x]))]) (fun (s29 : (List ByteArray)) z30 => [rows 7 v00 (a0.map audit_Use.cs)]) nilSl ho33 (.cons Mm.m0 (.cons Mm.m1 (.cons Mm.m2 (.cons Mm.m3 (.cons Mm.m7 .nil))))) (.of (.cons .k1 (.cons .k0 .nil))) (.cons Mm.m0 .nil) (fun i28 s29 z30 hi40 hr36 => ?_)
    refine .seq ?_
    refine .reg rfl ?_
    refine .opp (P.bin (v := Bo (decide ((i28 : Int) < (a0.length : Nat)))) .g0 .g1 .lss) rfl ?_
    refine .nil ?_
    refine .then ?_
    refine .seq ?_
    refine .cond .t0 (fun c41 => ?_) (fun c41 => ?_)
    · obtain ⟨e31, hx38⟩ := get_of c41
      obtain ⟨ct37, hc34, hn35⟩ := loopR_at hx38 hr36
      refine .skip ?_
      refine .then ?_
      obtain ⟨y42, hj44, hc34⟩ := bnd_eq hc34
      refine .cutx (γ := Value) (E1 := fun z43 => [(6, z43), (34, N (i28 : Int)), (33, N (a0.length : Int)), (32, v00), (3, .map (some b1))]) (L1 := fun z43 => [mpo (fun (x : ByteArray) => Value.string x) (fun (x : Int) => N x) b1 s3, lst 9 1 z43 (y42.map (fun x => [.string x]))]) (R1 := fun z43 => [rows 7 v00 (a0.map audit_Use.cs)]) ?_ (fun z43 => ?_)
      · clear hc34
        refine .block ?_
        refine .seq ?_
        refine .reg rfl ?_
        refine .ixq Mm.m0 (map_get hx38) fun p45 q46 hq47 => ?_
        refine .opp (P.ixi (i := i28) .g0 rfl .g2 hq47 runUnderlying24 sizeOf43) rfl ?_
        refine .op (V.ldx0 (u := Ag (audit_Use.cs e31)) .t0 hq47 Mm.m0 (map_get hx38) (.agg isAgg43 sizeOf43 rfl rfl)) rfl ?_
        refine .opx (X.alc (cs := (audit_Use.cs ⟨0, 0, ⟨#[]⟩, ⟨0, 0, 0, 0⟩⟩)) zeroValue43 rfl) rfl fun b48 => ?_
        refine .opg (G.str .t1 .g0 .k0 (.mk (cs' := (audit_Use.cs e31)) sizeOf43 rfl rfl rfl rfl)) rfl fun _ _ => ?_
        refine .nil ?_
        refine .then ?_
        obtain ⟨y49, hj51, hj44⟩ := bnd_eq hj44
        refine .cutx (γ := Unit) (E1 := fun z50 => [(49, Bo y49), (8, pt b48 0), (34, N (i28 : Int)), (33, N (a0.length : Int)), (32, v00), (6, z30), (3, .map (some b1))]) (L1 := fun z50 => [blk b48 43 (audit_Use.cs e31), mpo (fun (x : ByteArray) => Value.string x) (fun (x : Int) => N x) b1 s3, lst 9 1 z30 (s29.map (fun x => [.string x]))]) (R1 := fun z50 => [rows 7 v00 (a0.map audit_Use.cs)]) ?_ (fun z50 => ?_)
        · clear hj44
          refine .reg rfl ?_
          refine .opp (P.mov .g5) rfl ?_
          refine .opp (P.fa .g1 fa_43_2 rfl) rfl ?_
          refine .op (V.ld (v := .string e31.Key) .t0 .k0 (.one isAgg9 rfl)) rfl ?_
          refine .op (V.mlk1 (f := (fun (x : ByteArray) => Value.string x)) (g := (fun (x : Int) => N x)) (xs := s3) (k := e31.Key) (z0 := 0) keyStr .t0 .t0 .k1 underlying67 underlying9 zeroValue3) rfl ?_
          refine .opp (P.bin .t0 .k .eql) rfl ?_
          refine .opp (P.mov .t0) rfl ?_
          refine .split .k0 (fun c52 => ?_) (fun c52 => ?_)
          · rw [if_pos c52] at hj51
            refine .gyes rfl .g0 ?_
            refine .opp (P.mov .g5) rfl ?_
            refine .gyes rfl .g1 ?_
            refine .opp (P.fa .g2 fa_43_2 rfl) rfl ?_
            refine .gyes rfl .g2 ?_
            refine .op (V.ld (v := .string e31.Key) .t0 .k0 (.one isAgg9 rfl)) rfl ?_
            refine .gyes rfl .g2 ?_
            obtain ⟨r53, hr54, hj51⟩ := bnd_eq hj51
            refine .opg (G.calll call25 (.cons .t1 (.cons .t0 .nil)) (S_slices_Contains_string z30 s29 e31.Key r53 hr54) .nil (.imp (List.mem_append_right _ Mm.m2) (fun _ => lst_rows) .nil) (fun _ _ => rfl) rfl) rfl fun _ _ => ?_
            refine .gyes rfl .g1 ?_
            refine .opp (P.not .t0) rfl ?_
            refine .opp (P.pickT .t1 .t0) rfl ?_
            refine .nil ?_
            cases hj51
            exact .stj () (.cons Mm.m0 (.cons Mm.m1 (.cons Mm.m2 (.cons Mm.m3 (.cons Mm.m4 (.cons Mm.m5 (.cons Mm.m6 .nil))))))) (.of (.cons .k0 (.cons .k0 (.cons .k0 .nil)))) (.cons Mm.m0 .nil)
          · rw [if_neg (ne_true_of_eq_false c52)] at hj51
            refine .gno rfl .g0 rfl rfl ?_
            refine .gno rfl .g0 rfl rfl ?_
            refine .gno rfl .g0 rfl rfl ?_
            refine .gno rfl .g0 rfl rfl ?_
            refine .gno rfl .g0 rfl rfl ?_
            refine .opp (P.pickF .t0 .k) rfl ?_
            refine .nil ?_
            cases hj51
            exact .stj () (.cons Mm.m0 (.cons Mm.m1 (.cons Mm.m2 (.cons Mm.m3 (.cons Mm.m4 (.cons Mm.m5 (.cons Mm.m6 .nil))))))) (.of (.cons .k0 (.cons .k0 (.cons .k0 .nil)))) (.cons Mm.m0 .nil)
        · clear hj51
          refine .cond .t0 (fun c55 => ?_) (fun c55 => ?_)
          · rw [if_pos c55] at hj44
            refine .reg rfl ?_
            refine .opp (P.mov .g4) rfl ?_
            refine .opp (P.fa .t1 fa_43_2 rfl) rfl ?_
            refine .op (V.ld (v := .string e31.Key) .t0 .k0 (.one isAgg9 rfl)) rfl ?_
            refine .opg (G.bsl (cs := [.string e31.Key]) .t0 runUnderlying47 sizeOf9 zeroValue9 rfl rfl rfl rfl rfl) rfl fun u56 _ => ?_
            obtain ⟨hb58, hj44⟩ := grd_eq hj44
            refine .opg (G.app (by_ := 16) .t1 .t0 .k3 (.inr (.inr ⟨_, Mm.m0⟩)) runUnderlying47 runUnderlying47 sizeOf9 typeInfo9 rfl rfl zeroValue9 rfl rfl (by simpa using hb58) rfl) rfl fun u57 _ => ?_
            refine .conseq .k0 (q := lst 9 1 u57 ((s29 ++ ([e31.Key] : List ByteArray)).map (fun x => [.string x]))) (fun _ hh => by simpa [List.map_append] using hh) ?_
            refine .drop .k4 ?_
            refine .opp (P.asg .t0) rfl ?_
            refine .nil ?_
            refine .inn ?_
            cases hj44
            exact .stj u57 (.cons Mm.m0 (.cons Mm.m1 (.cons Mm.m2 (.cons Mm.m3 (.cons Mm.m4 .nil))))) (.of (.cons .k3 (.cons .k0 .nil))) (.cons Mm.m0 .nil)
          · rw [if_neg (ne_true_of_eq_false c55)] at hj44
            refine .skip ?_
            refine .inn ?_
            cases hj44
            exact .stj z30 (.cons Mm.m4 (.cons Mm.m1 (.cons Mm.m2 (.cons Mm.m3 (.cons Mm.m5 .nil))))) (.of (.cons .k1 (.cons .k1 .nil))) (.cons Mm.m0 .nil)
      · clear hj44
        refine .reg rfl ?_
        refine .opp (P.bin .g1 .k (.addc (inc_ok (lt_of_get hx38) hl39))) rfl ?_
        refine .drop .k2 ?_
        refine .opp (P.mov .t0) rfl ?_
        refine .nil ?_
        cases hc34
        exact .rdR y42 z43 hn35 (lt_of_get hx38) (.cons Mm.m0 (.cons Mm.m2 (.cons Mm.m3 (.cons Mm.m1 (.cons Mm.m4 .nil))))) (.of (.cons .k0 (.cons .k0 .nil))) (.cons Mm.m0 .nil)
    · obtain rfl := loopR_end (le_of_not c41) hr36
      have h := dn_on h
      refine .exit ?_
      refine .thx ?_
      refine .thx ?_
      refine .inb ?_
      refine .then ?_
      refine .seq ?_
      refine .reg rfl ?_
      refine .opp (P.mov .t3) rfl ?_
      refine .opp (P.asg .t0) rfl ?_
      refine .nil ?_
      refine .then ?_
      refine .ret ?_
      cases h
      exact .finw z30 (.r1 rfl (.tmp .g0)) trivial (Ls.of (.cons .k1 .nil)) .nil
attribute [irreducible] audit_Both
noncomputable def audit_Leaves (a0 : List audit_Use) : Option (Int) :=
  Option.bind (loopR (fun (i2 : Nat) (e5 : audit_Use) (s3 : (List (Int × Bool))) => some (.nx ((mset (e5.Leaf : Int) (true : Bool) s3)))) 0 a0 ([])) fun o6 => Lo.on o6 fun (s3 : (List (Int × Bool))) => some (((s3.length : Nat) : Int))
set_option maxRecDepth 20000 in
set_option maxHeartbeats 1000000 in
theorem S_audit_Leaves (v00 : Value) (a0 : List audit_Use) (r : Int) (h : audit_Leaves a0 = some r) :
    SpecF Try.prog 11 [v00] [] [rows 7 v00 (a0.map audit_Use.cs)] (fun z : Unit => True) (fun z => N r) (fun z M =>  M) (fun z M =>  M) := by
  refine .of func11 rfl ntmps11 rfl fun w0 D0 G0 => ?_
  unfold audit_Leaves at h
  refine .seq ?_
  refine .reg rfl ?_
  refine .op0 (OpP.toV (P.asg .k)) rfl ?_
  refine .nil ?_
  refine .then ?_
  refine .seq ?_
  refine .reg rfl ?_
  refine .opx (X.mkm (f := (fun (x : Int) => N x)) (g := (fun (x : Bool) => Bo x))) rfl fun b1 => ?_
  refine .opp (P.asg .t0) rfl ?_
  refine .nil ?_
  refine .then ?_
  refine .seq ?_
  refine .seq ?_
  refine .reg rfl ?_
  refine .opp (P.mov .t1) rfl ?_
  refine .op (V.lnr (n := a0.length) .g0 Mm.m0 map_len runUnderlying24) rfl ?_
  refine .opp (P.mov .k) rfl ?_
  refine .nil ?_
  refine .then ?_
  refine .block ?_
  obtain ⟨o6, ho7, h⟩ := bnd_eq h
  refine .lenq Mm.m0 fun hl13 => ?_
  rw [map_len] at hl13
  refine .loopR (γ := Unit) (fun i2 (s3 : (List (Int × Bool))) z4 => [(9, N (i2 : Int)), (8, N (a0.length : Int)), (7, v00), (3, .map (some b1))]) (fun (s3 : (List (Int × Bool))) z4 => [mpo (fun (x : Int) => N x) (fun (x : Bool) => Bo x) b1 s3]) (fun (s3 : (List (Int × Bool))) z4 => [rows 7 v00 (a0.map audit_Use.cs)]) () ho7 (.cons Mm.m0 (.cons Mm.m1 (.cons Mm.m2 (.cons Mm.m3 .nil)))) (.of (.cons .k0 .nil)) (.cons Mm.m0 .nil) (fun i2 s3 z4 hi14 hr10 => ?_)
  refine .seq ?_
  refine .reg rfl ?_
  refine .opp (P.bin (v := Bo (decide ((i2 : Int) < (a0.length : Nat)))) .g0 .g1 .lss) rfl ?_
  refine .nil ?_
  refine .then ?_
  refine .seq ?_
  refine .cond .t0 (fun c15 => ?_) (fun c15 => ?_)
  · obtain ⟨e5, hx12⟩ := get_of c15
    obtain ⟨ct11, hc8, hn9⟩ := loopR_at hx12 hr10
    refine .skip ?_
    refine .then ?_
    refine .seq ?_
    refine .block ?_
    refine .seq ?_
    refine .reg rfl ?_
    refine .ixq Mm.m0 (map_get hx12) fun p16 q17 hq18 => ?_
    refine .opp (P.ixi (i := i2) .g0 rfl .g2 hq18 runUnderlying24 sizeOf43) rfl ?_
    refine .op (V.ldx0 (u := Ag (audit_Use.cs e5)) .t0 hq18 Mm.m0 (map_get hx12) (.agg isAgg43 sizeOf43 rfl rfl)) rfl ?_
    refine .opx (X.alc (cs := (audit_Use.cs ⟨0, 0, ⟨#[]⟩, ⟨0, 0, 0, 0⟩⟩)) zeroValue43 rfl) rfl fun b19 => ?_
    refine .opg (G.str .t1 .g0 .k0 (.mk (cs' := (audit_Use.cs e5)) sizeOf43 rfl rfl rfl rfl)) rfl fun _ _ => ?_
    refine .nil ?_
    refine .then ?_
    refine .reg rfl ?_
    refine .opp (P.mov .g4) rfl ?_
    refine .opp (P.fa .t1 fa_43_0 rfl) rfl ?_
    refine .op (V.ld (v := N e5.Leaf) .t0 .k0 (.one isAgg3 rfl)) rfl ?_
    refine .opg (G.mup (f := (fun (x : Int) => N x)) (g := (fun (x : Bool) => Bo x)) (xs := s3) (k := (e5.Leaf : Int)) (y := (true : Bool)) keyInt .k .t0 .t0 .k1 underlying64 underlying3) rfl fun _ _ => ?_
    refine .nil ?_
    refine .inn ?_
    refine .then ?_
    refine .reg rfl ?_
    refine .opp (P.bin .g0 .k (.addc (inc_ok (lt_of_get hx12) hl13))) rfl ?_
    refine .drop .k1 ?_
    refine .opp (P.mov .t0) rfl ?_
    refine .nil ?_
    cases hc8
    exact .rdR ((mset (e5.Leaf : Int) (true : Bool) s3)) () hn9 (lt_of_get hx12) (.cons Mm.m0 (.cons Mm.m1 (.cons Mm.m2 (.cons Mm.m3 .nil)))) (.of (.cons .k0 .nil)) (.cons Mm.m0 .nil)
  · obtain rfl := loopR_end (le_of_not c15) hr10
    have h := dn_on h
    refine .exit ?_
    refine .thx ?_
    refine .thx ?_
    refine .inb ?_
    refine .then ?_
    refine .seq ?_
    refine .reg rfl ?_
    refine .opp (P.mov .t3) rfl ?_
    refine .op (V.mlen (f := (fun (x : Int) => N x)) (g := (fun (x : Bool) => Bo x)) (xs := s3) .t0 .k0 underlying64) rfl ?_
    refine .opp (P.asg .t0) rfl ?_
    refine .nil ?_
    refine .then ?_
    refine .ret ?_
    cases h
    exact .finw () (.r1 rfl (.tmp .g0)) trivial (Ls.of .nil) .nil
attribute [irreducible] audit_Leaves
noncomputable def narrowslaw27_alive  : Option (Bool) :=
  Option.bind (Option.bind (audit_Twice ([⟨1, 1, ⟨#[97]⟩, ⟨0, 0, 0, 0⟩⟩, ⟨1, 2, ⟨#[97]⟩, ⟨0, 0, 0, 0⟩⟩] : List audit_Use)) fun r5 => if (decide ((r5.length : Int) = 2)) = true then (Option.bind (audit_Both ([⟨1, 1, ⟨#[97]⟩, ⟨0, 0, 0, 0⟩⟩, ⟨1, 2, ⟨#[97]⟩, ⟨0, 0, 0, 0⟩⟩] : List audit_Use)) fun r9 => if (decide ((r9.length : Int) = 1)) = true then (Option.bind (audit_Leaves ([⟨1, 1, ⟨#[97]⟩, ⟨0, 0, 0, 0⟩⟩, ⟨1, 2, ⟨#[97]⟩, ⟨0, 0, 0, 0⟩⟩] : List audit_Use)) fun r13 => some (decide (r13 = 1))) else (some false)) else (some false)) fun (y2 : Bool) => some y2
set_option maxRecDepth 20000 in
set_option maxHeartbeats 1000000 in
theorem S_narrowslaw27_alive  (r : Bool) (h : narrowslaw27_alive  = some r) :
    SpecF Try.prog 4 [] [] [] (fun z : Unit => True) (fun z => Bo r) (fun z M =>  M) (fun z M =>  M) := by
  refine .of func4 rfl ntmps4 rfl fun w0 D0 G0 => ?_
  unfold narrowslaw27_alive at h
  refine .seq ?_
  refine .reg rfl ?_
  refine .op0 (OpP.toV (P.asg .k)) rfl ?_
  refine .nil ?_
  refine .then ?_
  refine .seq ?_
  refine .reg rfl ?_
  refine .opp (P.bld (v := Ag (audit_Use.cs ⟨1, 1, ⟨#[97]⟩, ⟨0, 0, 0, 0⟩⟩)) (.cons .k (.cons .k (.cons .k .nil))) (bld_run zeroValue43 runUnderlying43 pl_43 (by kernel_rfl))) rfl ?_
  refine .opp (P.bld (v := Ag (audit_Use.cs ⟨1, 2, ⟨#[97]⟩, ⟨0, 0, 0, 0⟩⟩)) (.cons .k (.cons .k (.cons .k .nil))) (bld_run zeroValue43 runUnderlying43 pl_43 (by kernel_rfl))) rfl ?_
  refine .opg (G.bsln (xs := [(audit_Use.cs ⟨1, 1, ⟨#[97]⟩, ⟨0, 0, 0, 0⟩⟩), (audit_Use.cs ⟨1, 2, ⟨#[97]⟩, ⟨0, 0, 0, 0⟩⟩)]) (.cons .t1 (.cons .t0 .nil)) runUnderlying24 sizeOf43 zeroValue43 (by kernel_rfl) rfl rfl rfl rfl rfl) rfl fun u1 _ => ?_
  refine .opp (P.asg .t0) rfl ?_
  refine .nil ?_
  refine .then ?_
  refine .frz .k0 ?_
  obtain ⟨y2, hj4, h⟩ := bnd_eq h
  refine .cutx (γ := Unit) (E1 := fun z3 => [(0, Bo y2)]) (L1 := fun z3 => []) (R1 := fun z3 => []) ?_ (fun z3 => ?_)
  · clear h
    refine .reg rfl ?_
    refine .opp (P.mov .g0) rfl ?_
    obtain ⟨r5, hr6, hj4⟩ := bnd_eq hj4
    refine .opg (G.call call9 (.cons .t0 .nil) (S_audit_Twice u1 ([⟨1, 1, ⟨#[97]⟩, ⟨0, 0, 0, 0⟩⟩, ⟨1, 2, ⟨#[97]⟩, ⟨0, 0, 0, 0⟩⟩] : List audit_Use) r5 hr6) .nil (.cons Mm.m0 .nil) (fun _ _ => rfl) (fun _ _ => rfl) rfl) rfl fun u7 _ => ?_
    refine .op (V.lnl (n := r5.length) .t0 .k0 map_len runUnderlying24) rfl ?_
    refine .opp (P.bin .t0 .k .eql) rfl ?_
    refine .opp (P.mov .t0) rfl ?_
    refine .split .k0 (fun c8 => ?_) (fun c8 => ?_)
    · rw [if_pos c8] at hj4
      refine .gyes rfl .g0 ?_
      refine .opp (P.mov .g1) rfl ?_
      refine .gyes rfl .g1 ?_
      obtain ⟨r9, hr10, hj4⟩ := bnd_eq hj4
      refine .opg (G.call call10 (.cons .t0 .nil) (S_audit_Both u1 ([⟨1, 1, ⟨#[97]⟩, ⟨0, 0, 0, 0⟩⟩, ⟨1, 2, ⟨#[97]⟩, ⟨0, 0, 0, 0⟩⟩] : List audit_Use) r9 hr10) .nil (.cons Mm.m0 .nil) (fun _ _ => rfl) (fun _ _ => rfl) rfl) rfl fun u11 _ => ?_
      refine .gyes rfl .g1 ?_
      refine .op (V.lnl (n := r9.length) .t0 .k0 map_len runUnderlying47) rfl ?_
      refine .gyes rfl .g1 ?_
      refine .opp (P.bin .t0 .k .eql) rfl ?_
      refine .opp (P.pickT .t1 .t0) rfl ?_
      refine .opp (P.mov .t0) rfl ?_
      refine .split .k0 (fun c12 => ?_) (fun c12 => ?_)
      · rw [if_pos c12] at hj4
        refine .gyes rfl .g0 ?_
        refine .opp (P.mov .t1) rfl ?_
        refine .gyes rfl .g1 ?_
        obtain ⟨r13, hr14, hj4⟩ := bnd_eq hj4
        refine .opg (G.call call11 (.cons .t0 .nil) (S_audit_Leaves u1 ([⟨1, 1, ⟨#[97]⟩, ⟨0, 0, 0, 0⟩⟩, ⟨1, 2, ⟨#[97]⟩, ⟨0, 0, 0, 0⟩⟩] : List audit_Use) r13 hr14) .nil (.cons Mm.m0 .nil) (fun _ _ => rfl) (fun _ _ => rfl) rfl) rfl fun _ _ => ?_
        refine .gyes rfl .g1 ?_
        refine .opp (P.bin .t0 .k .eql) rfl ?_
        refine .opp (P.pickT .t1 .t0) rfl ?_
        refine .opp (P.asg .t0) rfl ?_
        refine .nil ?_
        cases hj4
        exact .stj () (.cons Mm.m0 .nil) (.of .nil) .nil
      · rw [if_neg (ne_true_of_eq_false c12)] at hj4
        refine .gno rfl .g0 rfl rfl ?_
        refine .gno rfl .g0 rfl rfl ?_
        refine .gno rfl .g0 rfl rfl ?_
        refine .opp (P.pickF .t0 .k) rfl ?_
        refine .opp (P.asg .t0) rfl ?_
        refine .nil ?_
        cases hj4
        exact .stj () (.cons Mm.m0 .nil) (.of .nil) .nil
    · rw [if_neg (ne_true_of_eq_false c8)] at hj4
      refine .gno rfl .g0 rfl rfl ?_
      refine .gno rfl .g0 rfl rfl ?_
      refine .gno rfl .g0 rfl rfl ?_
      refine .gno rfl .g0 rfl rfl ?_
      refine .opp (P.pickF .t0 .k) rfl ?_
      refine .opp (P.mov .t0) rfl ?_
      refine .gno rfl .g0 rfl rfl ?_
      refine .gno rfl .g0 rfl rfl ?_
      refine .gno rfl .g0 rfl rfl ?_
      refine .opp (P.pickF .t0 .k) rfl ?_
      refine .opp (P.asg .t0) rfl ?_
      refine .nil ?_
      cases hj4
      exact .stj () (.cons Mm.m0 .nil) (.of .nil) .nil
  · clear hj4
    refine .ret ?_
    cases h
    exact .finw () (.r1 rfl (.tmp .g0)) trivial (Ls.of .nil) .nil
attribute [irreducible] narrowslaw27_alive
noncomputable def narrowsref06_Inv (a0 : api_Inv) : Int :=
  thn (if (decide (a0.User < 0)) = true then true else (if (decide (a0.User > 1)) = true then true else (if (decide (a0.Router < 2)) = true then true else (if (decide (a0.Router > 3)) = true then true else (if (decide (a0.Send < 0)) = true then true else (if (decide (a0.Send > 1)) = true then true else (if (decide (a0.Recv < 0)) = true then true else (if (decide (a0.Recv > 1)) = true then true else (if (decide (a0.To < 0)) = true then true else (if (decide (a0.To > 7)) = true then true else (if (decide ((a0.Root.size : Int) ≠ 8)) = true then true else (if (decide ((a0.Id.size : Int) < 1)) = true then true else (decide ((a0.Id.size : Int) > 16)))))))))))))) fun (y2 : Bool) => if y2 = true then 39 else 0
set_option maxRecDepth 20000 in
set_option maxHeartbeats 1000000 in
theorem S_narrowsref06_Inv (a0 : api_Inv) (r : Int) (h : narrowsref06_Inv a0 = r) :
    SpecF Try.prog 12 [Ag (api_Inv.cs a0)] [] [] (fun z : Unit => True) (fun z => N r) (fun z M =>  M) (fun z M =>  M) := by
  refine .of func12 rfl ntmps12 rfl fun w0 D0 G0 => ?_
  unfold narrowsref06_Inv at h
  refine .seq ?_
  refine .reg rfl ?_
  refine .opx (X.box (cs := (api_Inv.cs a0)) .t0 rfl) rfl fun b1 => ?_
  refine .op0 (OpP.toV (P.asg .k)) rfl ?_
  refine .nil ?_
  refine .then ?_
  refine .seq ?_
  obtain ⟨y2, hj4, h⟩ := thn_eq h
  refine .cutx (γ := Unit) (E1 := fun z3 => [(68, Bo y2)]) (L1 := fun z3 => []) (R1 := fun z3 => []) ?_ (fun z3 => ?_)
  · clear h
    refine .reg rfl ?_
    refine .opp (P.fa .g0 fa_30_0 rfl) rfl ?_
    refine .op (V.ld (v := N a0.User) .t0 .k0 (.one isAgg3 rfl)) rfl ?_
    refine .opp (P.bin .t0 .k .lss) rfl ?_
    refine .opp (P.mov .t0) rfl ?_
    refine .split .k0 (fun c5 => ?_) (fun c5 => ?_)
    · rw [if_pos c5] at hj4
      refine .gno rfl .g0 rfl rfl ?_
      refine .gno rfl .g0 rfl rfl ?_
      refine .gno rfl .g0 rfl rfl ?_
      refine .opp (P.pickT .t0 .k) rfl ?_
      refine .opp (P.mov .t0) rfl ?_
      refine .gno rfl .g0 rfl rfl ?_
      refine .gno rfl .g0 rfl rfl ?_
      refine .gno rfl .g0 rfl rfl ?_
      refine .opp (P.pickT .t0 .k) rfl ?_
      refine .opp (P.mov .t0) rfl ?_
      refine .gno rfl .g0 rfl rfl ?_
      refine .gno rfl .g0 rfl rfl ?_
      refine .gno rfl .g0 rfl rfl ?_
      refine .opp (P.pickT .t0 .k) rfl ?_
      refine .opp (P.mov .t0) rfl ?_
      refine .gno rfl .g0 rfl rfl ?_
      refine .gno rfl .g0 rfl rfl ?_
      refine .gno rfl .g0 rfl rfl ?_
      refine .opp (P.pickT .t0 .k) rfl ?_
      refine .opp (P.mov .t0) rfl ?_
      refine .gno rfl .g0 rfl rfl ?_
      refine .gno rfl .g0 rfl rfl ?_
      refine .gno rfl .g0 rfl rfl ?_
      refine .opp (P.pickT .t0 .k) rfl ?_
      refine .opp (P.mov .t0) rfl ?_
      refine .gno rfl .g0 rfl rfl ?_
      refine .gno rfl .g0 rfl rfl ?_
      refine .gno rfl .g0 rfl rfl ?_
      refine .opp (P.pickT .t0 .k) rfl ?_
      refine .opp (P.mov .t0) rfl ?_
      refine .gno rfl .g0 rfl rfl ?_
      refine .gno rfl .g0 rfl rfl ?_
      refine .gno rfl .g0 rfl rfl ?_
      refine .opp (P.pickT .t0 .k) rfl ?_
      refine .opp (P.mov .t0) rfl ?_
      refine .gno rfl .g0 rfl rfl ?_
      refine .gno rfl .g0 rfl rfl ?_
      refine .gno rfl .g0 rfl rfl ?_
      refine .opp (P.pickT .t0 .k) rfl ?_
      refine .opp (P.mov .t0) rfl ?_
      refine .gno rfl .g0 rfl rfl ?_
      refine .gno rfl .g0 rfl rfl ?_
      refine .gno rfl .g0 rfl rfl ?_
      refine .opp (P.pickT .t0 .k) rfl ?_
      refine .opp (P.mov .t0) rfl ?_
      refine .gno rfl .g0 rfl rfl ?_
      refine .gno rfl .g0 rfl rfl ?_
      refine .gno rfl .g0 rfl rfl ?_
      refine .gno rfl .g0 rfl rfl ?_
      refine .opp (P.pickT .t0 .k) rfl ?_
      refine .opp (P.mov .t0) rfl ?_
      refine .gno rfl .g0 rfl rfl ?_
      refine .gno rfl .g0 rfl rfl ?_
      refine .gno rfl .g0 rfl rfl ?_
      refine .gno rfl .g0 rfl rfl ?_
      refine .opp (P.pickT .t0 .k) rfl ?_
      refine .opp (P.mov .t0) rfl ?_
      refine .gno rfl .g0 rfl rfl ?_
      refine .gno rfl .g0 rfl rfl ?_
      refine .gno rfl .g0 rfl rfl ?_
      refine .gno rfl .g0 rfl rfl ?_
      refine .opp (P.pickT .t0 .k) rfl ?_
      refine .nil ?_
      subst hj4
      exact .stj () (.cons Mm.m0 .nil) (.of .nil) .nil
    · rw [if_neg (ne_true_of_eq_false c5)] at hj4
      refine .gyes rfl .g0 ?_
      refine .opp (P.fa .g1 fa_30_0 rfl) rfl ?_
      refine .gyes rfl .g1 ?_
      refine .op (V.ld (v := N a0.User) .t0 .k0 (.one isAgg3 rfl)) rfl ?_
      refine .gyes rfl .g1 ?_
      refine .opp (P.bin .t0 .k .gtr) rfl ?_
      refine .opp (P.pickF .t1 .t0) rfl ?_
      refine .opp (P.mov .t0) rfl ?_
      refine .split .k0 (fun c6 => ?_) (fun c6 => ?_)
      · rw [if_pos c6] at hj4
        refine .gno rfl .g0 rfl rfl ?_
        refine .gno rfl .g0 rfl rfl ?_
        refine .gno rfl .g0 rfl rfl ?_
        refine .opp (P.pickT .t0 .k) rfl ?_
        refine .opp (P.mov .t0) rfl ?_
        refine .gno rfl .g0 rfl rfl ?_
        refine .gno rfl .g0 rfl rfl ?_
        refine .gno rfl .g0 rfl rfl ?_
        refine .opp (P.pickT .t0 .k) rfl ?_
        refine .opp (P.mov .t0) rfl ?_
        refine .gno rfl .g0 rfl rfl ?_
        refine .gno rfl .g0 rfl rfl ?_
        refine .gno rfl .g0 rfl rfl ?_
        refine .opp (P.pickT .t0 .k) rfl ?_
        refine .opp (P.mov .t0) rfl ?_
        refine .gno rfl .g0 rfl rfl ?_
        refine .gno rfl .g0 rfl rfl ?_
        refine .gno rfl .g0 rfl rfl ?_
        refine .opp (P.pickT .t0 .k) rfl ?_
        refine .opp (P.mov .t0) rfl ?_
        refine .gno rfl .g0 rfl rfl ?_
        refine .gno rfl .g0 rfl rfl ?_
        refine .gno rfl .g0 rfl rfl ?_
        refine .opp (P.pickT .t0 .k) rfl ?_
        refine .opp (P.mov .t0) rfl ?_
        refine .gno rfl .g0 rfl rfl ?_
        refine .gno rfl .g0 rfl rfl ?_
        refine .gno rfl .g0 rfl rfl ?_
        refine .opp (P.pickT .t0 .k) rfl ?_
        refine .opp (P.mov .t0) rfl ?_
        refine .gno rfl .g0 rfl rfl ?_
        refine .gno rfl .g0 rfl rfl ?_
        refine .gno rfl .g0 rfl rfl ?_
        refine .opp (P.pickT .t0 .k) rfl ?_
        refine .opp (P.mov .t0) rfl ?_
        refine .gno rfl .g0 rfl rfl ?_
        refine .gno rfl .g0 rfl rfl ?_
        refine .gno rfl .g0 rfl rfl ?_
        refine .opp (P.pickT .t0 .k) rfl ?_
        refine .opp (P.mov .t0) rfl ?_
        refine .gno rfl .g0 rfl rfl ?_
        refine .gno rfl .g0 rfl rfl ?_
        refine .gno rfl .g0 rfl rfl ?_
        refine .gno rfl .g0 rfl rfl ?_
        refine .opp (P.pickT .t0 .k) rfl ?_
        refine .opp (P.mov .t0) rfl ?_
        refine .gno rfl .g0 rfl rfl ?_
        refine .gno rfl .g0 rfl rfl ?_
        refine .gno rfl .g0 rfl rfl ?_
        refine .gno rfl .g0 rfl rfl ?_
        refine .opp (P.pickT .t0 .k) rfl ?_
        refine .opp (P.mov .t0) rfl ?_
        refine .gno rfl .g0 rfl rfl ?_
        refine .gno rfl .g0 rfl rfl ?_
        refine .gno rfl .g0 rfl rfl ?_
        refine .gno rfl .g0 rfl rfl ?_
        refine .opp (P.pickT .t0 .k) rfl ?_
        refine .nil ?_
        subst hj4
        exact .stj () (.cons Mm.m0 .nil) (.of .nil) .nil
      · rw [if_neg (ne_true_of_eq_false c6)] at hj4
        refine .gyes rfl .g0 ?_
        refine .opp (P.fa .g1 fa_30_2 rfl) rfl ?_
        refine .gyes rfl .g1 ?_
        refine .op (V.ld (v := N a0.Router) .t0 .k0 (.one isAgg3 rfl)) rfl ?_
        refine .gyes rfl .g1 ?_
        refine .opp (P.bin .t0 .k .lss) rfl ?_
        refine .opp (P.pickF .t1 .t0) rfl ?_
        refine .opp (P.mov .t0) rfl ?_
        refine .split .k0 (fun c7 => ?_) (fun c7 => ?_)
        · rw [if_pos c7] at hj4
          refine .gno rfl .g0 rfl rfl ?_
          refine .gno rfl .g0 rfl rfl ?_
          refine .gno rfl .g0 rfl rfl ?_
          refine .opp (P.pickT .t0 .k) rfl ?_
          refine .opp (P.mov .t0) rfl ?_
          refine .gno rfl .g0 rfl rfl ?_
          refine .gno rfl .g0 rfl rfl ?_
          refine .gno rfl .g0 rfl rfl ?_
          refine .opp (P.pickT .t0 .k) rfl ?_
          refine .opp (P.mov .t0) rfl ?_
          refine .gno rfl .g0 rfl rfl ?_
          refine .gno rfl .g0 rfl rfl ?_
          refine .gno rfl .g0 rfl rfl ?_
          refine .opp (P.pickT .t0 .k) rfl ?_
          refine .opp (P.mov .t0) rfl ?_
          refine .gno rfl .g0 rfl rfl ?_
          refine .gno rfl .g0 rfl rfl ?_
          refine .gno rfl .g0 rfl rfl ?_
          refine .opp (P.pickT .t0 .k) rfl ?_
          refine .opp (P.mov .t0) rfl ?_
          refine .gno rfl .g0 rfl rfl ?_
          refine .gno rfl .g0 rfl rfl ?_
          refine .gno rfl .g0 rfl rfl ?_
          refine .opp (P.pickT .t0 .k) rfl ?_
          refine .opp (P.mov .t0) rfl ?_
          refine .gno rfl .g0 rfl rfl ?_
          refine .gno rfl .g0 rfl rfl ?_
          refine .gno rfl .g0 rfl rfl ?_
          refine .opp (P.pickT .t0 .k) rfl ?_
          refine .opp (P.mov .t0) rfl ?_
          refine .gno rfl .g0 rfl rfl ?_
          refine .gno rfl .g0 rfl rfl ?_
          refine .gno rfl .g0 rfl rfl ?_
          refine .opp (P.pickT .t0 .k) rfl ?_
          refine .opp (P.mov .t0) rfl ?_
          refine .gno rfl .g0 rfl rfl ?_
          refine .gno rfl .g0 rfl rfl ?_
          refine .gno rfl .g0 rfl rfl ?_
          refine .gno rfl .g0 rfl rfl ?_
          refine .opp (P.pickT .t0 .k) rfl ?_
          refine .opp (P.mov .t0) rfl ?_
          refine .gno rfl .g0 rfl rfl ?_
          refine .gno rfl .g0 rfl rfl ?_
          refine .gno rfl .g0 rfl rfl ?_
          refine .gno rfl .g0 rfl rfl ?_
          refine .opp (P.pickT .t0 .k) rfl ?_
          refine .opp (P.mov .t0) rfl ?_
          refine .gno rfl .g0 rfl rfl ?_
          refine .gno rfl .g0 rfl rfl ?_
          refine .gno rfl .g0 rfl rfl ?_
          refine .gno rfl .g0 rfl rfl ?_
          refine .opp (P.pickT .t0 .k) rfl ?_
          refine .nil ?_
          subst hj4
          exact .stj () (.cons Mm.m0 .nil) (.of .nil) .nil
        · rw [if_neg (ne_true_of_eq_false c7)] at hj4
          refine .gyes rfl .g0 ?_
          refine .opp (P.fa .g1 fa_30_2 rfl) rfl ?_
          refine .gyes rfl .g1 ?_
          refine .op (V.ld (v := N a0.Router) .t0 .k0 (.one isAgg3 rfl)) rfl ?_
          refine .gyes rfl .g1 ?_
          refine .opp (P.bin .t0 .k .gtr) rfl ?_
          refine .opp (P.pickF .t1 .t0) rfl ?_
          refine .opp (P.mov .t0) rfl ?_
          refine .split .k0 (fun c8 => ?_) (fun c8 => ?_)
          · rw [if_pos c8] at hj4
            refine .gno rfl .g0 rfl rfl ?_
            refine .gno rfl .g0 rfl rfl ?_
            refine .gno rfl .g0 rfl rfl ?_
            refine .opp (P.pickT .t0 .k) rfl ?_
            refine .opp (P.mov .t0) rfl ?_
            refine .gno rfl .g0 rfl rfl ?_
            refine .gno rfl .g0 rfl rfl ?_
            refine .gno rfl .g0 rfl rfl ?_
            refine .opp (P.pickT .t0 .k) rfl ?_
            refine .opp (P.mov .t0) rfl ?_
            refine .gno rfl .g0 rfl rfl ?_
            refine .gno rfl .g0 rfl rfl ?_
            refine .gno rfl .g0 rfl rfl ?_
            refine .opp (P.pickT .t0 .k) rfl ?_
            refine .opp (P.mov .t0) rfl ?_
            refine .gno rfl .g0 rfl rfl ?_
            refine .gno rfl .g0 rfl rfl ?_
            refine .gno rfl .g0 rfl rfl ?_
            refine .opp (P.pickT .t0 .k) rfl ?_
            refine .opp (P.mov .t0) rfl ?_
            refine .gno rfl .g0 rfl rfl ?_
            refine .gno rfl .g0 rfl rfl ?_
            refine .gno rfl .g0 rfl rfl ?_
            refine .opp (P.pickT .t0 .k) rfl ?_
            refine .opp (P.mov .t0) rfl ?_
            refine .gno rfl .g0 rfl rfl ?_
            refine .gno rfl .g0 rfl rfl ?_
            refine .gno rfl .g0 rfl rfl ?_
            refine .opp (P.pickT .t0 .k) rfl ?_
            refine .opp (P.mov .t0) rfl ?_
            refine .gno rfl .g0 rfl rfl ?_
            refine .gno rfl .g0 rfl rfl ?_
            refine .gno rfl .g0 rfl rfl ?_
            refine .gno rfl .g0 rfl rfl ?_
            refine .opp (P.pickT .t0 .k) rfl ?_
            refine .opp (P.mov .t0) rfl ?_
            refine .gno rfl .g0 rfl rfl ?_
            refine .gno rfl .g0 rfl rfl ?_
            refine .gno rfl .g0 rfl rfl ?_
            refine .gno rfl .g0 rfl rfl ?_
            refine .opp (P.pickT .t0 .k) rfl ?_
            refine .opp (P.mov .t0) rfl ?_
            refine .gno rfl .g0 rfl rfl ?_
            refine .gno rfl .g0 rfl rfl ?_
            refine .gno rfl .g0 rfl rfl ?_
            refine .gno rfl .g0 rfl rfl ?_
            refine .opp (P.pickT .t0 .k) rfl ?_
            refine .nil ?_
            subst hj4
            exact .stj () (.cons Mm.m0 .nil) (.of .nil) .nil
          · rw [if_neg (ne_true_of_eq_false c8)] at hj4
            refine .gyes rfl .g0 ?_
            refine .opp (P.fa .g1 fa_30_3 rfl) rfl ?_
            refine .gyes rfl .g1 ?_
            refine .op (V.ld (v := N a0.Send) .t0 .k0 (.one isAgg3 rfl)) rfl ?_
            refine .gyes rfl .g1 ?_
            refine .opp (P.bin .t0 .k .lss) rfl ?_
            refine .opp (P.pickF .t1 .t0) rfl ?_
            refine .opp (P.mov .t0) rfl ?_
            refine .split .k0 (fun c9 => ?_) (fun c9 => ?_)
            · rw [if_pos c9] at hj4
              refine .gno rfl .g0 rfl rfl ?_
              refine .gno rfl .g0 rfl rfl ?_
              refine .gno rfl .g0 rfl rfl ?_
              refine .opp (P.pickT .t0 .k) rfl ?_
              refine .opp (P.mov .t0) rfl ?_
              refine .gno rfl .g0 rfl rfl ?_
              refine .gno rfl .g0 rfl rfl ?_
              refine .gno rfl .g0 rfl rfl ?_
              refine .opp (P.pickT .t0 .k) rfl ?_
              refine .opp (P.mov .t0) rfl ?_
              refine .gno rfl .g0 rfl rfl ?_
              refine .gno rfl .g0 rfl rfl ?_
              refine .gno rfl .g0 rfl rfl ?_
              refine .opp (P.pickT .t0 .k) rfl ?_
              refine .opp (P.mov .t0) rfl ?_
              refine .gno rfl .g0 rfl rfl ?_
              refine .gno rfl .g0 rfl rfl ?_
              refine .gno rfl .g0 rfl rfl ?_
              refine .opp (P.pickT .t0 .k) rfl ?_
              refine .opp (P.mov .t0) rfl ?_
              refine .gno rfl .g0 rfl rfl ?_
              refine .gno rfl .g0 rfl rfl ?_
              refine .gno rfl .g0 rfl rfl ?_
              refine .opp (P.pickT .t0 .k) rfl ?_
              refine .opp (P.mov .t0) rfl ?_
              refine .gno rfl .g0 rfl rfl ?_
              refine .gno rfl .g0 rfl rfl ?_
              refine .gno rfl .g0 rfl rfl ?_
              refine .gno rfl .g0 rfl rfl ?_
              refine .opp (P.pickT .t0 .k) rfl ?_
              refine .opp (P.mov .t0) rfl ?_
              refine .gno rfl .g0 rfl rfl ?_
              refine .gno rfl .g0 rfl rfl ?_
              refine .gno rfl .g0 rfl rfl ?_
              refine .gno rfl .g0 rfl rfl ?_
              refine .opp (P.pickT .t0 .k) rfl ?_
              refine .opp (P.mov .t0) rfl ?_
              refine .gno rfl .g0 rfl rfl ?_
              refine .gno rfl .g0 rfl rfl ?_
              refine .gno rfl .g0 rfl rfl ?_
              refine .gno rfl .g0 rfl rfl ?_
              refine .opp (P.pickT .t0 .k) rfl ?_
              refine .nil ?_
              subst hj4
              exact .stj () (.cons Mm.m0 .nil) (.of .nil) .nil
            · rw [if_neg (ne_true_of_eq_false c9)] at hj4
              refine .gyes rfl .g0 ?_
              refine .opp (P.fa .g1 fa_30_3 rfl) rfl ?_
              refine .gyes rfl .g1 ?_
              refine .op (V.ld (v := N a0.Send) .t0 .k0 (.one isAgg3 rfl)) rfl ?_
              refine .gyes rfl .g1 ?_
              refine .opp (P.bin .t0 .k .gtr) rfl ?_
              refine .opp (P.pickF .t1 .t0) rfl ?_
              refine .opp (P.mov .t0) rfl ?_
              refine .split .k0 (fun c10 => ?_) (fun c10 => ?_)
              · rw [if_pos c10] at hj4
                refine .gno rfl .g0 rfl rfl ?_
                refine .gno rfl .g0 rfl rfl ?_
                refine .gno rfl .g0 rfl rfl ?_
                refine .opp (P.pickT .t0 .k) rfl ?_
                refine .opp (P.mov .t0) rfl ?_
                refine .gno rfl .g0 rfl rfl ?_
                refine .gno rfl .g0 rfl rfl ?_
                refine .gno rfl .g0 rfl rfl ?_
                refine .opp (P.pickT .t0 .k) rfl ?_
                refine .opp (P.mov .t0) rfl ?_
                refine .gno rfl .g0 rfl rfl ?_
                refine .gno rfl .g0 rfl rfl ?_
                refine .gno rfl .g0 rfl rfl ?_
                refine .opp (P.pickT .t0 .k) rfl ?_
                refine .opp (P.mov .t0) rfl ?_
                refine .gno rfl .g0 rfl rfl ?_
                refine .gno rfl .g0 rfl rfl ?_
                refine .gno rfl .g0 rfl rfl ?_
                refine .opp (P.pickT .t0 .k) rfl ?_
                refine .opp (P.mov .t0) rfl ?_
                refine .gno rfl .g0 rfl rfl ?_
                refine .gno rfl .g0 rfl rfl ?_
                refine .gno rfl .g0 rfl rfl ?_
                refine .gno rfl .g0 rfl rfl ?_
                refine .opp (P.pickT .t0 .k) rfl ?_
                refine .opp (P.mov .t0) rfl ?_
                refine .gno rfl .g0 rfl rfl ?_
                refine .gno rfl .g0 rfl rfl ?_
                refine .gno rfl .g0 rfl rfl ?_
                refine .gno rfl .g0 rfl rfl ?_
                refine .opp (P.pickT .t0 .k) rfl ?_
                refine .opp (P.mov .t0) rfl ?_
                refine .gno rfl .g0 rfl rfl ?_
                refine .gno rfl .g0 rfl rfl ?_
                refine .gno rfl .g0 rfl rfl ?_
                refine .gno rfl .g0 rfl rfl ?_
                refine .opp (P.pickT .t0 .k) rfl ?_
                refine .nil ?_
                subst hj4
                exact .stj () (.cons Mm.m0 .nil) (.of .nil) .nil
              · rw [if_neg (ne_true_of_eq_false c10)] at hj4
                refine .gyes rfl .g0 ?_
                refine .opp (P.fa .g1 fa_30_4 rfl) rfl ?_
                refine .gyes rfl .g1 ?_
                refine .op (V.ld (v := N a0.Recv) .t0 .k0 (.one isAgg3 rfl)) rfl ?_
                refine .gyes rfl .g1 ?_
                refine .opp (P.bin .t0 .k .lss) rfl ?_
                refine .opp (P.pickF .t1 .t0) rfl ?_
                refine .opp (P.mov .t0) rfl ?_
                refine .split .k0 (fun c11 => ?_) (fun c11 => ?_)
                · rw [if_pos c11] at hj4
                  refine .gno rfl .g0 rfl rfl ?_
                  refine .gno rfl .g0 rfl rfl ?_
                  refine .gno rfl .g0 rfl rfl ?_
                  refine .opp (P.pickT .t0 .k) rfl ?_
                  refine .opp (P.mov .t0) rfl ?_
                  refine .gno rfl .g0 rfl rfl ?_
                  refine .gno rfl .g0 rfl rfl ?_
                  refine .gno rfl .g0 rfl rfl ?_
                  refine .opp (P.pickT .t0 .k) rfl ?_
                  refine .opp (P.mov .t0) rfl ?_
                  refine .gno rfl .g0 rfl rfl ?_
                  refine .gno rfl .g0 rfl rfl ?_
                  refine .gno rfl .g0 rfl rfl ?_
                  refine .opp (P.pickT .t0 .k) rfl ?_
                  refine .opp (P.mov .t0) rfl ?_
                  refine .gno rfl .g0 rfl rfl ?_
                  refine .gno rfl .g0 rfl rfl ?_
                  refine .gno rfl .g0 rfl rfl ?_
                  refine .gno rfl .g0 rfl rfl ?_
                  refine .opp (P.pickT .t0 .k) rfl ?_
                  refine .opp (P.mov .t0) rfl ?_
                  refine .gno rfl .g0 rfl rfl ?_
                  refine .gno rfl .g0 rfl rfl ?_
                  refine .gno rfl .g0 rfl rfl ?_
                  refine .gno rfl .g0 rfl rfl ?_
                  refine .opp (P.pickT .t0 .k) rfl ?_
                  refine .opp (P.mov .t0) rfl ?_
                  refine .gno rfl .g0 rfl rfl ?_
                  refine .gno rfl .g0 rfl rfl ?_
                  refine .gno rfl .g0 rfl rfl ?_
                  refine .gno rfl .g0 rfl rfl ?_
                  refine .opp (P.pickT .t0 .k) rfl ?_
                  refine .nil ?_
                  subst hj4
                  exact .stj () (.cons Mm.m0 .nil) (.of .nil) .nil
                · rw [if_neg (ne_true_of_eq_false c11)] at hj4
                  refine .gyes rfl .g0 ?_
                  refine .opp (P.fa .g1 fa_30_4 rfl) rfl ?_
                  refine .gyes rfl .g1 ?_
                  refine .op (V.ld (v := N a0.Recv) .t0 .k0 (.one isAgg3 rfl)) rfl ?_
                  refine .gyes rfl .g1 ?_
                  refine .opp (P.bin .t0 .k .gtr) rfl ?_
                  refine .opp (P.pickF .t1 .t0) rfl ?_
                  refine .opp (P.mov .t0) rfl ?_
                  refine .split .k0 (fun c12 => ?_) (fun c12 => ?_)
                  · rw [if_pos c12] at hj4
                    refine .gno rfl .g0 rfl rfl ?_
                    refine .gno rfl .g0 rfl rfl ?_
                    refine .gno rfl .g0 rfl rfl ?_
                    refine .opp (P.pickT .t0 .k) rfl ?_
                    refine .opp (P.mov .t0) rfl ?_
                    refine .gno rfl .g0 rfl rfl ?_
                    refine .gno rfl .g0 rfl rfl ?_
                    refine .gno rfl .g0 rfl rfl ?_
                    refine .opp (P.pickT .t0 .k) rfl ?_
                    refine .opp (P.mov .t0) rfl ?_
                    refine .gno rfl .g0 rfl rfl ?_
                    refine .gno rfl .g0 rfl rfl ?_
                    refine .gno rfl .g0 rfl rfl ?_
                    refine .gno rfl .g0 rfl rfl ?_
                    refine .opp (P.pickT .t0 .k) rfl ?_
                    refine .opp (P.mov .t0) rfl ?_
                    refine .gno rfl .g0 rfl rfl ?_
                    refine .gno rfl .g0 rfl rfl ?_
                    refine .gno rfl .g0 rfl rfl ?_
                    refine .gno rfl .g0 rfl rfl ?_
                    refine .opp (P.pickT .t0 .k) rfl ?_
                    refine .opp (P.mov .t0) rfl ?_
                    refine .gno rfl .g0 rfl rfl ?_
                    refine .gno rfl .g0 rfl rfl ?_
                    refine .gno rfl .g0 rfl rfl ?_
                    refine .gno rfl .g0 rfl rfl ?_
                    refine .opp (P.pickT .t0 .k) rfl ?_
                    refine .nil ?_
                    subst hj4
                    exact .stj () (.cons Mm.m0 .nil) (.of .nil) .nil
                  · rw [if_neg (ne_true_of_eq_false c12)] at hj4
                    refine .gyes rfl .g0 ?_
                    refine .opp (P.fa .g1 fa_30_5 rfl) rfl ?_
                    refine .gyes rfl .g1 ?_
                    refine .op (V.ld (v := N a0.To) .t0 .k0 (.one isAgg3 rfl)) rfl ?_
                    refine .gyes rfl .g1 ?_
                    refine .opp (P.bin .t0 .k .lss) rfl ?_
                    refine .opp (P.pickF .t1 .t0) rfl ?_
                    refine .opp (P.mov .t0) rfl ?_
                    refine .split .k0 (fun c13 => ?_) (fun c13 => ?_)
                    · rw [if_pos c13] at hj4
                      refine .gno rfl .g0 rfl rfl ?_
                      refine .gno rfl .g0 rfl rfl ?_
                      refine .gno rfl .g0 rfl rfl ?_
                      refine .opp (P.pickT .t0 .k) rfl ?_
                      refine .opp (P.mov .t0) rfl ?_
                      refine .gno rfl .g0 rfl rfl ?_
                      refine .gno rfl .g0 rfl rfl ?_
                      refine .gno rfl .g0 rfl rfl ?_
                      refine .gno rfl .g0 rfl rfl ?_
                      refine .opp (P.pickT .t0 .k) rfl ?_
                      refine .opp (P.mov .t0) rfl ?_
                      refine .gno rfl .g0 rfl rfl ?_
                      refine .gno rfl .g0 rfl rfl ?_
                      refine .gno rfl .g0 rfl rfl ?_
                      refine .gno rfl .g0 rfl rfl ?_
                      refine .opp (P.pickT .t0 .k) rfl ?_
                      refine .opp (P.mov .t0) rfl ?_
                      refine .gno rfl .g0 rfl rfl ?_
                      refine .gno rfl .g0 rfl rfl ?_
                      refine .gno rfl .g0 rfl rfl ?_
                      refine .gno rfl .g0 rfl rfl ?_
                      refine .opp (P.pickT .t0 .k) rfl ?_
                      refine .nil ?_
                      subst hj4
                      exact .stj () (.cons Mm.m0 .nil) (.of .nil) .nil
                    · rw [if_neg (ne_true_of_eq_false c13)] at hj4
                      refine .gyes rfl .g0 ?_
                      refine .opp (P.fa .g1 fa_30_5 rfl) rfl ?_
                      refine .gyes rfl .g1 ?_
                      refine .op (V.ld (v := N a0.To) .t0 .k0 (.one isAgg3 rfl)) rfl ?_
                      refine .gyes rfl .g1 ?_
                      refine .opp (P.bin .t0 .k .gtr) rfl ?_
                      refine .opp (P.pickF .t1 .t0) rfl ?_
                      refine .opp (P.mov .t0) rfl ?_
                      refine .split .k0 (fun c14 => ?_) (fun c14 => ?_)
                      · rw [if_pos c14] at hj4
                        refine .gno rfl .g0 rfl rfl ?_
                        refine .gno rfl .g0 rfl rfl ?_
                        refine .gno rfl .g0 rfl rfl ?_
                        refine .gno rfl .g0 rfl rfl ?_
                        refine .opp (P.pickT .t0 .k) rfl ?_
                        refine .opp (P.mov .t0) rfl ?_
                        refine .gno rfl .g0 rfl rfl ?_
                        refine .gno rfl .g0 rfl rfl ?_
                        refine .gno rfl .g0 rfl rfl ?_
                        refine .gno rfl .g0 rfl rfl ?_
                        refine .opp (P.pickT .t0 .k) rfl ?_
                        refine .opp (P.mov .t0) rfl ?_
                        refine .gno rfl .g0 rfl rfl ?_
                        refine .gno rfl .g0 rfl rfl ?_
                        refine .gno rfl .g0 rfl rfl ?_
                        refine .gno rfl .g0 rfl rfl ?_
                        refine .opp (P.pickT .t0 .k) rfl ?_
                        refine .nil ?_
                        subst hj4
                        exact .stj () (.cons Mm.m0 .nil) (.of .nil) .nil
                      · rw [if_neg (ne_true_of_eq_false c14)] at hj4
                        refine .gyes rfl .g0 ?_
                        refine .opp (P.fa .g1 fa_30_1 rfl) rfl ?_
                        refine .gyes rfl .g1 ?_
                        refine .op (V.ld (v := .string a0.Root) .t0 .k0 (.one isAgg9 rfl)) rfl ?_
                        refine .gyes rfl .g1 ?_
                        refine .opp (P.lens .t0 runUnderlying9) rfl ?_
                        refine .gyes rfl .g1 ?_
                        refine .opp (P.bin .t0 .k .neq) rfl ?_
                        refine .opp (P.pickF .t1 .t0) rfl ?_
                        refine .opp (P.mov .t0) rfl ?_
                        refine .split .k0 (fun c15 => ?_) (fun c15 => ?_)
                        · rw [if_pos c15] at hj4
                          refine .gno rfl .g0 rfl rfl ?_
                          refine .gno rfl .g0 rfl rfl ?_
                          refine .gno rfl .g0 rfl rfl ?_
                          refine .gno rfl .g0 rfl rfl ?_
                          refine .opp (P.pickT .t0 .k) rfl ?_
                          refine .opp (P.mov .t0) rfl ?_
                          refine .gno rfl .g0 rfl rfl ?_
                          refine .gno rfl .g0 rfl rfl ?_
                          refine .gno rfl .g0 rfl rfl ?_
                          refine .gno rfl .g0 rfl rfl ?_
                          refine .opp (P.pickT .t0 .k) rfl ?_
                          refine .nil ?_
                          subst hj4
                          exact .stj () (.cons Mm.m0 .nil) (.of .nil) .nil
                        · rw [if_neg (ne_true_of_eq_false c15)] at hj4
                          refine .gyes rfl .g0 ?_
                          refine .opp (P.fa .g1 fa_30_6 rfl) rfl ?_
                          refine .gyes rfl .g1 ?_
                          refine .op (V.ld (v := .string a0.Id) .t0 .k0 (.one isAgg9 rfl)) rfl ?_
                          refine .gyes rfl .g1 ?_
                          refine .opp (P.lens .t0 runUnderlying9) rfl ?_
                          refine .gyes rfl .g1 ?_
                          refine .opp (P.bin .t0 .k .lss) rfl ?_
                          refine .opp (P.pickF .t1 .t0) rfl ?_
                          refine .opp (P.mov .t0) rfl ?_
                          refine .split .k0 (fun c16 => ?_) (fun c16 => ?_)
                          · rw [if_pos c16] at hj4
                            refine .gno rfl .g0 rfl rfl ?_
                            refine .gno rfl .g0 rfl rfl ?_
                            refine .gno rfl .g0 rfl rfl ?_
                            refine .gno rfl .g0 rfl rfl ?_
                            refine .opp (P.pickT .t0 .k) rfl ?_
                            refine .nil ?_
                            subst hj4
                            exact .stj () (.cons Mm.m0 .nil) (.of .nil) .nil
                          · rw [if_neg (ne_true_of_eq_false c16)] at hj4
                            refine .gyes rfl .g0 ?_
                            refine .opp (P.fa .t1 fa_30_6 rfl) rfl ?_
                            refine .gyes rfl .g1 ?_
                            refine .op (V.ld (v := .string a0.Id) .t0 .k0 (.one isAgg9 rfl)) rfl ?_
                            refine .gyes rfl .g1 ?_
                            refine .opp (P.lens .t0 runUnderlying9) rfl ?_
                            refine .gyes rfl .g1 ?_
                            refine .opp (P.bin .t0 .k .gtr) rfl ?_
                            refine .opp (P.pickF .t1 .t0) rfl ?_
                            refine .nil ?_
                            subst hj4
                            exact .stj () (.cons Mm.m0 .nil) (.of .nil) .nil
  · clear hj4
    refine .cond .t0 (fun c17 => ?_) (fun c17 => ?_)
    · rw [if_pos c17] at h
      refine .seq ?_
      refine .reg rfl ?_
      refine .opp (P.asg .k) rfl ?_
      refine .nil ?_
      refine .then ?_
      refine .ret ?_
      refine .thr ?_
      subst h
      exact .finw () (.r1 rfl (.tmp .g0)) trivial (Ls.of .nil) .nil
    · rw [if_neg (ne_true_of_eq_false c17)] at h
      refine .skip ?_
      refine .then ?_
      refine .seq ?_
      refine .reg rfl ?_
      refine .opp (P.asg .k) rfl ?_
      refine .nil ?_
      refine .then ?_
      refine .ret ?_
      subst h
      exact .finw () (.r1 rfl (.tmp .g0)) trivial (Ls.of .nil) .nil
attribute [irreducible] narrowsref06_Inv
noncomputable def narrowsref01_Cat (a0 : List UInt8) (a1 : List UInt8) : Option ((List UInt8)) :=
  grd ((([] : List UInt8).length + a0.length) * 1 ≤ 140737488355328) <| grd (((([] : List UInt8) ++ a0).length + a1.length) * 1 ≤ 140737488355328) <| some (((([] : List UInt8) ++ a0) ++ a1))
set_option maxRecDepth 20000 in
set_option maxHeartbeats 1000000 in
theorem S_narrowsref01_Cat (v00 : Value) (a0 : List UInt8) (v01 : Value) (a1 : List UInt8) (r : (List UInt8)) (h : narrowsref01_Cat a0 a1 = some r) :
    SpecF Try.prog 32 [v00, v01] [] [rows 1 v00 (a0.map (fun x => [B8 x])), rows 1 v01 (a1.map (fun x => [B8 x]))] (fun z : Value => True) (fun z => z) (fun z M => lst 5 1 z (r.map (fun x => [B8 x])) ::  M) (fun z M =>  M) := by
  refine .of func32 rfl ntmps32 rfl fun w0 D0 G0 => ?_
  unfold narrowsref01_Cat at h
  refine .seq ?_
  refine .reg rfl ?_
  refine .op0 (OpP.toV (P.asg .k)) rfl ?_
  refine .nil ?_
  refine .then ?_
  refine .seq ?_
  refine .reg rfl ?_
  refine .opg (G.bsl0 runUnderlying40 sizeOf5 rfl) rfl fun u1 _ => ?_
  refine .opp (P.mov .t1) rfl ?_
  obtain ⟨hb3, h⟩ := grd_eq h
  refine .opg (G.app (by_ := 1) .t1 .t0 .k0 (.inl Mm.m0) runUnderlying40 runUnderlying40 sizeOf5 typeInfo5 rfl rfl zeroValue5 rfl (one_map one_5 _) (by simpa using hb3) rfl) rfl fun u2 _ => ?_
  refine .conseq .k0 (q := lst 5 1 u2 ((([] : List UInt8) ++ a0).map (fun x => [B8 x]))) (fun _ hh => by simpa [List.map_append] using hh) ?_
  refine .opp (P.asg .t0) rfl ?_
  refine .nil ?_
  refine .then ?_
  refine .seq ?_
  refine .reg rfl ?_
  refine .opp (P.mov .t0) rfl ?_
  refine .opp (P.mov .t1) rfl ?_
  obtain ⟨hb5, h⟩ := grd_eq h
  refine .opg (G.app (by_ := 1) .t1 .t0 .k0 (.inl Mm.m1) runUnderlying40 runUnderlying40 sizeOf5 typeInfo5 rfl rfl zeroValue5 rfl (one_map one_5 _) (by simpa using hb5) rfl) rfl fun u4 _ => ?_
  refine .conseq .k0 (q := lst 5 1 u4 (((([] : List UInt8) ++ a0) ++ a1).map (fun x => [B8 x]))) (fun _ hh => by simpa [List.map_append] using hh) ?_
  refine .opp (P.asg .t0) rfl ?_
  refine .nil ?_
  refine .then ?_
  refine .ret ?_
  cases h
  exact .finw u4 (.r1 rfl (.tmp .g0)) trivial (Ls.of (.cons .k0 .nil)) .nil
attribute [irreducible] narrowsref01_Cat
noncomputable def narrowsref06_put (a0 : narrowsref06_W) (a1 : List UInt8) (a2 : Int) : Option (narrowsref06_W) :=
  if (decide (a0.E ≠ 0)) = true then (some a0) else (if (decide (a2 ≠ 0)) = true then (some (⟨[], a2⟩ : narrowsref06_W)) else (if (decide ((IntKind.i64.wrap ((a0.B.length : Int) + (a1.length : Int))) > 8192)) = true then (some (⟨[], 5⟩ : narrowsref06_W)) else (Option.bind (narrowsref01_Cat a0.B a1) fun r7 => some (⟨r7, 0⟩ : narrowsref06_W))))
set_option maxRecDepth 20000 in
set_option maxHeartbeats 1000000 in
theorem S_narrowsref06_put (a0 : narrowsref06_W) (z00a : Value) (v01 : Value) (a1 : List UInt8) (a2 : Int) (r : narrowsref06_W) (h : narrowsref06_put a0 a1 a2 = some r) :
    SpecF Try.prog 30 [Ag (narrowsref06_W.cs a0 z00a), v01, N a2] [] [rows 1 z00a (a0.B.map (fun x => [B8 x])), rows 1 v01 (a1.map (fun x => [B8 x]))] (fun z : Value => True) (fun z => Ag (narrowsref06_W.cs r z)) (fun z M =>  M) (fun z M => rows 1 z (r.B.map (fun x => [B8 x])) ::  M) := by
  refine .of func30 rfl ntmps30 rfl fun w0 D0 G0 => ?_
  unfold narrowsref06_put at h
  refine .seq ?_
  refine .reg rfl ?_
  refine .opx (X.box (cs := (narrowsref06_W.cs a0 z00a)) .t0 rfl) rfl fun b1 => ?_
  refine .opx (X.alc (cs := (narrowsref06_W.cs ⟨[], 0⟩ nilSl)) zeroValue53 rfl) rfl fun b2 => ?_
  refine .nil ?_
  refine .then ?_
  refine .seq ?_
  refine .seq ?_
  refine .reg rfl ?_
  refine .opp (P.fa .g1 fa_53_1 rfl) rfl ?_
  refine .op (V.ld (v := N a0.E) .t0 .k1 (.one isAgg3 rfl)) rfl ?_
  refine .opp (P.bin .t0 .k .neq) rfl ?_
  refine .nil ?_
  refine .then ?_
  refine .cond .t0 (fun c3 => ?_) (fun c3 => ?_)
  · rw [if_pos c3] at h
    refine .seq ?_
    refine .reg rfl ?_
    refine .op (V.ld (v := Ag (narrowsref06_W.cs a0 z00a)) .t1 .k1 (.agg isAgg53 sizeOf53 rfl rfl)) rfl ?_
    refine .oner Mm.m0 fun ho4 => ?_
    refine .opg (G.str .t0 .g0 .k0 (.mk (cs' := (narrowsref06_W.cs a0 z00a)) sizeOf53 rfl (onez_53 _ ho4) rfl rfl)) rfl fun _ _ => ?_
    refine .nil ?_
    refine .then ?_
    refine .ret ?_
    refine .thr ?_
    cases h
    exact .finw z00a (.r1 rfl (.cell .g0 .k0 (.agg isAgg53 sizeOf53 rfl rfl))) trivial (Ls.of .nil) (.cons Mm.m0 .nil)
  · rw [if_neg (ne_true_of_eq_false c3)] at h
    refine .skip ?_
    refine .then ?_
    refine .seq ?_
    refine .seq ?_
    refine .reg rfl ?_
    refine .opp (P.mov .g3) rfl ?_
    refine .opp (P.bin .t0 .k .neq) rfl ?_
    refine .nil ?_
    refine .then ?_
    refine .cond .t0 (fun c5 => ?_) (fun c5 => ?_)
    · rw [if_pos c5] at h
      refine .seq ?_
      refine .reg rfl ?_
      refine .opp (P.mov .t3) rfl ?_
      refine .opp (P.bld (v := Ag (narrowsref06_W.cs ⟨[], a2⟩ nilSl)) (.cons .k (.cons .t0 .nil)) (bld_run zeroValue53 runUnderlying53 pl_53 (by kernel_rfl))) rfl ?_
      refine .opg (G.str .t0 .g0 .k0 (.mk (cs' := (narrowsref06_W.cs ⟨[], a2⟩ nilSl)) sizeOf53 rfl (onez_53 _ rfl) rfl rfl)) rfl fun _ _ => ?_
      refine .nil ?_
      refine .then ?_
      refine .ret ?_
      refine .thr ?_
      cases h
      refine .rnil0 1 ?_
      exact .finw nilSl (.r1 rfl (.cell .g0 .k0 (.agg isAgg53 sizeOf53 rfl rfl))) trivial (Ls.of .nil) (.cons Mm.m0 .nil)
    · rw [if_neg (ne_true_of_eq_false c5)] at h
      refine .skip ?_
      refine .then ?_
      refine .seq ?_
      refine .seq ?_
      refine .reg rfl ?_
      refine .opp (P.fa .g1 fa_53_0 rfl) rfl ?_
      refine .op (V.ld (v := z00a) .t0 .k1 (.one isAgg40 rfl)) rfl ?_
      refine .op (V.lnr (n := a0.B.length) .t0 Mm.m0 map_len runUnderlying40) rfl ?_
      refine .opp (P.mov .g3) rfl ?_
      refine .op (V.lnr (n := a1.length) .t0 Mm.m1 map_len runUnderlying40) rfl ?_
      refine .opp (P.bin .t1 .t0 .add) rfl ?_
      refine .opp (P.bin .t0 .k .gtr) rfl ?_
      refine .nil ?_
      refine .then ?_
      refine .cond .t0 (fun c6 => ?_) (fun c6 => ?_)
      · rw [if_pos c6] at h
        refine .seq ?_
        refine .reg rfl ?_
        refine .opp (P.bld (v := Ag (narrowsref06_W.cs ⟨[], 5⟩ nilSl)) (.cons .k (.cons .k .nil)) (bld_run zeroValue53 runUnderlying53 pl_53 (by kernel_rfl))) rfl ?_
        refine .opg (G.str .t0 .g0 .k0 (.mk (cs' := (narrowsref06_W.cs ⟨[], 5⟩ nilSl)) sizeOf53 rfl (onez_53 _ rfl) rfl rfl)) rfl fun _ _ => ?_
        refine .nil ?_
        refine .then ?_
        refine .ret ?_
        refine .thr ?_
        cases h
        refine .rnil0 1 ?_
        exact .finw nilSl (.r1 rfl (.cell .g0 .k0 (.agg isAgg53 sizeOf53 rfl rfl))) trivial (Ls.of .nil) (.cons Mm.m0 .nil)
      · rw [if_neg (ne_true_of_eq_false c6)] at h
        refine .skip ?_
        refine .then ?_
        refine .seq ?_
        refine .reg rfl ?_
        refine .opp (P.fa .t1 fa_53_0 rfl) rfl ?_
        refine .op (V.ld (v := z00a) .t0 .k1 (.one isAgg40 rfl)) rfl ?_
        refine .opp (P.mov .t2) rfl ?_
        obtain ⟨r7, hr8, h⟩ := bnd_eq h
        refine .opg (G.call call32 (.cons .t1 (.cons .t0 .nil)) (S_narrowsref01_Cat z00a a0.B v01 a1 r7 hr8) .nil (.cons Mm.m0 (.cons Mm.m1 .nil)) (fun _ _ => rfl) (fun _ _ => rfl) rfl) rfl fun u9 _ => ?_
        refine .cell .k0 fun hv10 => ?_
        refine .opp (P.bld (v := Ag (narrowsref06_W.cs ⟨[], 0⟩ u9)) (.cons .t0 (.cons .k .nil)) (bld_run zeroValue53 runUnderlying53 pl_53 (by obtain ⟨_, _, _, rfl⟩ := hv10; kernel_rfl))) rfl ?_
        refine .onel .k0 fun ho11 => ?_
        refine .opg (G.str .t0 .g0 .k1 (.mk (cs' := (narrowsref06_W.cs ⟨[], 0⟩ u9)) sizeOf53 rfl (onez_53 _ ho11) rfl rfl)) rfl fun _ _ => ?_
        refine .nil ?_
        refine .then ?_
        refine .ret ?_
        cases h
        refine .frz .k1 ?_
        exact .finw u9 (.r1 rfl (.cell .g0 .k0 (.agg isAgg53 sizeOf53 rfl rfl))) trivial (Ls.of .nil) (.cons Mm.m0 .nil)
attribute [irreducible] narrowsref06_put
noncomputable def narrowsref01_Num (a0 : Int) (a1 : Int) : Option ((List UInt8)) :=
  grd (0 ≤ (if 8 < (if 0 > a1 then 0 else a1) then 8 else if 0 > a1 then 0 else a1) ∧ (if 8 < (if 0 > a1 then 0 else a1) then 8 else if 0 > a1 then 0 else a1) * 1 ≤ 140737488355328) <| Option.bind (loopW (fun (s3 : Int × UInt64 × (List UInt8)) => if (decide (s3.1 ≥ 0)) = true then (Option.bind (at_ s3.2.2 s3.1) fun (x16 : UInt8) => some (.nx ((IntKind.i64.wrap (s3.1 - 1), s3.2.1 / 256, (s3.2.2.set (s3.1).toNat (B8i ((s3.2.1 % 256).toNat : Int) : UInt8)))))) else (some (.br (s3.1, s3.2.1, s3.2.2)))) ((IntKind.i64.wrap ((if 8 < (if 0 > a1 then 0 else a1) then 8 else if 0 > a1 then 0 else a1) - 1), Ui a0, (List.replicate (if 8 < (if 0 > a1 then 0 else a1) then 8 else if 0 > a1 then 0 else a1).toNat (0 : UInt8))))) fun o5 => Lo.on o5 fun (s3 : Int × UInt64 × (List UInt8)) => some s3.2.2
set_option maxRecDepth 20000 in
set_option maxHeartbeats 1000000 in
theorem S_narrowsref01_Num (a0 : Int) (a1 : Int) (r : (List UInt8)) (h : narrowsref01_Num a0 a1 = some r) :
    SpecF Try.prog 33 [N a0, N a1] [] [] (fun z : Value => True) (fun z => z) (fun z M => lst 5 1 z (r.map (fun x => [B8 x])) ::  M) (fun z M =>  M) := by
  refine .of func33 rfl ntmps33 rfl fun w0 D0 G0 => ?_
  unfold narrowsref01_Num at h
  refine .seq ?_
  refine .reg rfl ?_
  refine .op0 (OpP.toV (P.asg .k)) rfl ?_
  refine .nil ?_
  refine .then ?_
  refine .seq ?_
  refine .reg rfl ?_
  refine .opp (P.mov .g1) rfl ?_
  refine .opp (P.max2 .t0 .k) rfl ?_
  refine .opp (P.min2 .t0 .k) rfl ?_
  refine .drop .k2 ?_
  refine .opp (P.asg .t0) rfl ?_
  refine .nil ?_
  refine .then ?_
  refine .seq ?_
  refine .reg rfl ?_
  refine .opp (P.mov .g0) rfl ?_
  obtain ⟨hb2, h⟩ := grd_eq h
  refine .opg (G.mks (by_ := 1) (cs := [B8 0]) .g0 .t0 runUnderlying40 sizeOf5 typeInfo5 rfl zeroValue5 rfl rfl rfl rfl hb2.1 hb2.2 rfl) rfl fun u1 _ => ?_
  refine .conseq .k0 (q := lst 5 1 u1 ((List.replicate (if 8 < (if 0 > a1 then 0 else a1) then 8 else if 0 > a1 then 0 else a1).toNat (0 : UInt8)).map (fun x => [B8 x]))) (fun _ hh => by simpa [List.map_replicate] using hh) ?_
  refine .opp (P.asg .t0) rfl ?_
  refine .nil ?_
  refine .then ?_
  refine .seq ?_
  refine .reg rfl ?_
  refine .opp (P.mov .t2) rfl ?_
  refine .opp (P.cnvU (m := a0) .t0 runUnderlying3 runUnderlying26) rfl ?_
  refine .opp (P.asg .t0) rfl ?_
  refine .nil ?_
  refine .then ?_
  refine .seq ?_
  refine .seq ?_
  refine .reg rfl ?_
  refine .opp (P.mov .t2) rfl ?_
  refine .opp (P.bin .t0 .k .sub) rfl ?_
  refine .opp (P.asg .t0) rfl ?_
  refine .nil ?_
  refine .then ?_
  refine .block ?_
  obtain ⟨o5, ho6, h⟩ := bnd_eq h
  refine .loopW (γ := Unit) (fun (s3 : Int × UInt64 × (List UInt8)) z4 => [(7, N s3.1), (6, U s3.2.1), (5, u1)]) (fun (s3 : Int × UInt64 × (List UInt8)) z4 => [lst 5 1 u1 (s3.2.2.map (fun x => [B8 x]))]) (fun (s3 : Int × UInt64 × (List UInt8)) z4 => []) () ho6 (.cons Mm.m0 (.cons Mm.m1 (.cons Mm.m2 .nil))) (.of (.cons .k0 .nil)) .nil (fun n11 s3 z4 hr9 => ?_)
  obtain ⟨ct10, hc7, hn8⟩ := loopK_at hr9
  refine .seq ?_
  refine .seq ?_
  refine .reg rfl ?_
  refine .opp (P.mov .g0) rfl ?_
  refine .opp (P.bin .t0 .k .geq) rfl ?_
  refine .nil ?_
  refine .then ?_
  refine .cond .t0 (fun c12 => ?_) (fun c12 => ?_)
  · rw [if_pos c12] at hc7
    refine .skip ?_
    refine .then ?_
    refine .seq ?_
    refine .block ?_
    refine .seq ?_
    refine .reg rfl ?_
    refine .opp (P.mov .g2) rfl ?_
    refine .opp (P.mov .g1) rfl ?_
    refine .opp (P.mov .g3) rfl ?_
    refine .opp (P.bin .t0 .k (BinV.remU (x := s3.2.1) (y := 256) (by decide))) rfl ?_
    refine .opp (P.cnvB8 (m := ((s3.2.1 % 256).toNat : Int)) .t0 runUnderlying26 runUnderlying5) rfl ?_
    obtain ⟨x16, hx17, hc7⟩ := bnd_eq hc7
    obtain ⟨i18, hi19, hx17⟩ := at_eq hx17
    have hi19_ : (s3.1).toNat = i18 := by rw [hi19]; rfl
    refine .ixql .k0 (map_get hx17) fun p13 q14 hq15 => ?_
    refine .opp (P.ixi (i := i18) .t1 hi19 .t1 hq15 runUnderlying40 sizeOf5) rfl ?_
    refine .opg (G.stx (off := q14) (k := 0) (cs' := [B8 (B8i ((s3.2.1 % 256).toNat : Int))]) .t1 .t0 hq15 .k0 (map_get hx17) (.mk sizeOf5 rfl rfl rfl rfl)) rfl fun _ _ => ?_
    refine .conseq .k0 (q := lst 5 1 u1 ((s3.2.2.set (s3.1).toNat (B8i ((s3.2.1 % 256).toNat : Int) : UInt8)).map (fun x => [B8 x]))) (fun _ h_ => by rw [hi19_]; simpa [List.map_set] using h_) ?_
    refine .nil ?_
    refine .then ?_
    refine .reg rfl ?_
    refine .opp (P.mov .g1) rfl ?_
    refine .opp (P.bin .t0 .k (BinV.quoU (x := s3.2.1) (y := 256) (by decide))) rfl ?_
    refine .drop .k2 ?_
    refine .opp (P.asg .t0) rfl ?_
    refine .nil ?_
    refine .inn ?_
    refine .then ?_
    refine .reg rfl ?_
    refine .opp (P.mov .g1) rfl ?_
    refine .opp (P.bin .t0 .k .sub) rfl ?_
    refine .drop .k2 ?_
    refine .opp (P.asg .t0) rfl ?_
    refine .nil ?_
    cases hc7
    obtain ⟨m20, hm21, hn8⟩ := hn8
    exact .rdW ((IntKind.i64.wrap (s3.1 - 1), s3.2.1 / 256, (s3.2.2.set (s3.1).toNat (B8i ((s3.2.1 % 256).toNat : Int) : UInt8)))) () hm21 hn8 (.cons Mm.m0 (.cons Mm.m1 (.cons Mm.m2 .nil))) (.of (.cons .k0 .nil)) .nil
  · rw [if_neg (ne_true_of_eq_false c12)] at hc7
    refine .exit ?_
    refine .thx ?_
    cases hc7
    refine .told (γ := Unit) h hn8 (fun (s3 : Int × UInt64 × (List UInt8)) _ => [(7, N s3.1), (6, U s3.2.1), (5, u1)]) (fun (s3 : Int × UInt64 × (List UInt8)) _ => [lst 5 1 u1 (s3.2.2.map (fun x => [B8 x]))]) (fun (s3 : Int × UInt64 × (List UInt8)) _ => []) () (.cons Mm.m0 (.cons Mm.m1 (.cons Mm.m2 .nil))) (.of (.cons .k0 .nil)) .nil (fun s3 _ h' => ?_)
    replace h := h'
    refine .thx ?_
    refine .inb ?_
    refine .then ?_
    refine .seq ?_
    refine .reg rfl ?_
    refine .opp (P.mov .t2) rfl ?_
    refine .opp (P.asg .t0) rfl ?_
    refine .nil ?_
    refine .then ?_
    refine .ret ?_
    cases h
    exact .finw u1 (.r1 rfl (.tmp .g0)) trivial (Ls.of (.cons .k0 .nil)) .nil
attribute [irreducible] narrowsref01_Num
noncomputable def narrowsref06_Text (a0 : narrowsref06_W) (a1 : ByteArray) : Option (narrowsref06_W) :=
  if (decide ((a1.size : Int) > 1024)) = true then (Option.bind (narrowsref06_put a0 ([] : List UInt8) 5) fun r4 => some r4) else (Option.bind (narrowsref01_Num (a1.size : Int) 2) fun r8 => grd (a1.size ≤ 140737488355328) <| Option.bind (narrowsref01_Cat r8 (a1.data.toList)) fun r13 => Option.bind (narrowsref06_put a0 r13 0) fun r16 => some r16)
set_option maxRecDepth 20000 in
set_option maxHeartbeats 1000000 in
theorem S_narrowsref06_Text (a0 : narrowsref06_W) (z00a : Value) (a1 : ByteArray) (r : narrowsref06_W) (h : narrowsref06_Text a0 a1 = some r) :
    SpecF Try.prog 18 [Ag (narrowsref06_W.cs a0 z00a), .string a1] [] [rows 1 z00a (a0.B.map (fun x => [B8 x]))] (fun z : Value => True) (fun z => Ag (narrowsref06_W.cs r z)) (fun z M =>  M) (fun z M => rows 1 z (r.B.map (fun x => [B8 x])) ::  M) := by
  refine .of func18 rfl ntmps18 rfl fun w0 D0 G0 => ?_
  unfold narrowsref06_Text at h
  refine .seq ?_
  refine .reg rfl ?_
  refine .opx (X.box (cs := (narrowsref06_W.cs a0 z00a)) .t0 rfl) rfl fun b1 => ?_
  refine .opx (X.alc (cs := (narrowsref06_W.cs ⟨[], 0⟩ nilSl)) zeroValue53 rfl) rfl fun b2 => ?_
  refine .nil ?_
  refine .then ?_
  refine .seq ?_
  refine .seq ?_
  refine .reg rfl ?_
  refine .opp (P.mov .g2) rfl ?_
  refine .opp (P.lens .t0 runUnderlying9) rfl ?_
  refine .opp (P.bin .t0 .k .gtr) rfl ?_
  refine .nil ?_
  refine .then ?_
  refine .cond .t0 (fun c3 => ?_) (fun c3 => ?_)
  · rw [if_pos c3] at h
    refine .seq ?_
    refine .reg rfl ?_
    refine .op (V.ld (v := Ag (narrowsref06_W.cs a0 z00a)) .t1 .k1 (.agg isAgg53 sizeOf53 rfl rfl)) rfl ?_
    refine .rnil0 1 ?_
    obtain ⟨r4, hr5, h⟩ := bnd_eq h
    refine .opg (G.call call30 (.cons .t0 (.cons .k (.cons .k .nil))) (S_narrowsref06_put a0 z00a nilSl ([] : List UInt8) 5 r4 hr5) .nil (.cons Mm.m1 (.cons Mm.m0 .nil)) (fun _ _ => rfl) (fun _ _ => rfl) rfl) rfl fun u6 _ => ?_
    refine .oner Mm.m0 fun ho7 => ?_
    refine .opg (G.str .t0 .g0 .k0 (.mk (cs' := (narrowsref06_W.cs r4 u6)) sizeOf53 rfl (onez_53 _ ho7) rfl rfl)) rfl fun _ _ => ?_
    refine .nil ?_
    refine .then ?_
    refine .ret ?_
    refine .thr ?_
    cases h
    exact .finw u6 (.r1 rfl (.cell .g0 .k0 (.agg isAgg53 sizeOf53 rfl rfl))) trivial (Ls.of .nil) (.cons Mm.m0 .nil)
  · rw [if_neg (ne_true_of_eq_false c3)] at h
    refine .skip ?_
    refine .then ?_
    refine .seq ?_
    obtain ⟨r8, hr9, h⟩ := bnd_eq h
    obtain ⟨hb12, h⟩ := grd_eq h
    obtain ⟨r13, hr14, h⟩ := bnd_eq h
    obtain ⟨r16, hr17, h⟩ := bnd_eq h
    refine .dcut (γ := Value × Value × Value × Value) (φ := fun _ => True) (E1 := fun x_ => [(4, pt b2 0)]) (L1 := fun x_ => [blk b2 53 (narrowsref06_W.cs r16 x_.2.2.2), blk b1 53 (narrowsref06_W.cs a0 z00a)]) (R1 := fun x_ => [rows 1 x_.2.2.2 (r16.B.map (fun x => [B8 x])), rows 1 x_.2.2.1 (r13.map (fun x => [B8 x])), rows 1 x_.1 (r8.map (fun x => [B8 x])), rows 1 x_.2.1 ((a1.data.toList).map (fun x => [B8 x])), rows 1 z00a (a0.B.map (fun x => [B8 x]))]) ?_ (fun x_ _ => ?_)
    · refine .drawl [blk b1 53 (narrowsref06_W.cs a0 z00a)] [rows 1 z00a (a0.B.map (fun x => [B8 x]))] (Ls.of (.cons .k1 .nil)) (Rs.cons Mm.m0 Rs.nil) 9 (.on 1 .pu (.on 4 .pu (.on 0 .ld (.on 2 .ld (.fk 3 5 (.on 5 .go (.on 6 .go (.on 7 .go (.on 8 .go .nl)))) (.on 3 .go (.on 6 .go (.on 7 .go (.on 8 .go .nl))))))))) follows_mixed (.thn (.thn .body)) (by kernel_rfl) ?_
      refine .dpu rfl (.n rfl) (P.mov .g2) rfl rfl ?_
      refine .dpu rfl (.n rfl) (P.mov .t3) rfl rfl ?_
      refine .dld rfl (.n rfl) (V.ld (v := Ag (narrowsref06_W.cs a0 z00a)) .t3 .k0 (.agg isAgg53 sizeOf53 rfl rfl)) (fun _ h => (h.imp (Ls.of (.cons .k1 .nil))).ro (Rs.cons Mm.m0 Rs.nil)) rfl rfl ?_
      refine .dld rfl (.n rfl) (OpP.toV (P.lens .t2 runUnderlying9)) (fun _ h => (h.imp (Ls.of (.cons .k1 .nil))).ro (Rs.cons Mm.m0 Rs.nil)) rfl rfl ?_
      refine .dfk ?_ ?_
      · refine .dgo rfl (.n rfl) (G.call call33 (.cons .t0 (.cons .k .nil)) (S_narrowsref01_Num (a1.size : Int) 2 r8 hr9) .nil .nil (fun _ _ => rfl) (fun _ _ => rfl) rfl) (.inr fun _ _ _ h => (h.imp (Ls.of (.cons .k2 .nil))).ro (Rs.cons Mm.m0 Rs.nil)) fun u10 _ => ?_
        refine .dgo rfl (.n rfl) (G.s2b (e := 5) .t2 (by kernel_rfl) (by kernel_rfl) (by kernel_rfl) hb12 rfl) (.inr fun _ _ _ h => (h.imp (Ls.of (.cons .k2 .nil))).ro (Rs.cons Mm.m1 Rs.nil)) fun u11 _ => ?_
        refine .frz .k0 ?_
        refine .dgo rfl (.n rfl) (G.call call32 (.cons .t1 (.cons .t0 .nil)) (S_narrowsref01_Cat u10 r8 u11 (a1.data.toList) r13 hr14) .nil (.cons Mm.m0 (.cons Mm.m1 .nil)) (fun _ _ => rfl) (fun _ _ => rfl) rfl) (.inr fun _ _ _ h => (h.imp (Ls.of (.cons .k2 .nil))).ro (Rs.cons Mm.m2 Rs.nil)) fun u15 _ => ?_
        refine .frz .k0 ?_
        refine .dgo rfl (.n rfl) (G.call call30 (.cons .t1 (.cons .t0 (.cons .k .nil))) (S_narrowsref06_put a0 z00a u15 r13 0 r16 hr17) .nil (.cons Mm.m3 (.cons Mm.m0 .nil)) (fun _ _ => rfl) (fun _ _ => rfl) rfl) (.inr fun _ _ _ h => (h.imp (Ls.of (.cons .k1 .nil))).ro (Rs.cons Mm.m4 Rs.nil)) fun u18 _ => ?_
        refine .oner Mm.m0 fun ho19 => ?_
        refine .dgo rfl (.n rfl) (G.str .t0 .g0 .k0 (.mk (cs' := (narrowsref06_W.cs r16 u18)) sizeOf53 rfl (onez_53 _ ho19) rfl rfl)) (.inr fun _ _ _ h => (h.imp (Ls.of (.cons .k1 .nil))).ro (Rs.cons Mm.m4 Rs.nil)) fun _ _ => ?_
        refine .dnil ?_
        exact .dst ⟨u10, u11, u15, u18⟩ trivial (.cons Mm.m0 .nil) (Ls.of (.cons .k0 (.cons .k0 .nil))) (.cons Mm.m0 (.cons Mm.m1 (.cons Mm.m2 (.cons Mm.m3 (.cons Mm.m4 .nil)))))
      · refine .dgo rfl (.n rfl) (G.s2b (e := 5) .t2 (by kernel_rfl) (by kernel_rfl) (by kernel_rfl) hb12 rfl) (.inr fun _ _ _ h => (h.imp (Ls.of (.cons .k1 .nil))).ro (Rs.cons Mm.m1 Rs.nil)) fun u11 _ => ?_
        refine .dgo rfl (.n rfl) (G.call call33 (.cons .t1 (.cons .k .nil)) (S_narrowsref01_Num (a1.size : Int) 2 r8 hr9) .nil .nil (fun _ _ => rfl) (fun _ _ => rfl) rfl) (.inr fun _ _ _ h => (h.imp (Ls.of (.cons .k2 .nil))).ro (Rs.cons Mm.m1 Rs.nil)) fun u10 _ => ?_
        refine .frz .k0 ?_
        refine .dgo rfl (.n rfl) (G.call call32 (.cons .t0 (.cons .t0 .nil)) (S_narrowsref01_Cat u10 r8 u11 (a1.data.toList) r13 hr14) .nil (.cons Mm.m0 (.cons Mm.m1 .nil)) (fun _ _ => rfl) (fun _ _ => rfl) rfl) (.inr fun _ _ _ h => (h.imp (Ls.of (.cons .k2 .nil))).ro (Rs.cons Mm.m2 Rs.nil)) fun u15 _ => ?_
        refine .frz .k0 ?_
        refine .dgo rfl (.n rfl) (G.call call30 (.cons .t1 (.cons .t0 (.cons .k .nil))) (S_narrowsref06_put a0 z00a u15 r13 0 r16 hr17) .nil (.cons Mm.m3 (.cons Mm.m0 .nil)) (fun _ _ => rfl) (fun _ _ => rfl) rfl) (.inr fun _ _ _ h => (h.imp (Ls.of (.cons .k1 .nil))).ro (Rs.cons Mm.m4 Rs.nil)) fun u18 _ => ?_
        refine .oner Mm.m0 fun ho19 => ?_
        refine .dgo rfl (.n rfl) (G.str .t0 .g0 .k0 (.mk (cs' := (narrowsref06_W.cs r16 u18)) sizeOf53 rfl (onez_53 _ ho19) rfl rfl)) (.inr fun _ _ _ h => (h.imp (Ls.of (.cons .k1 .nil))).ro (Rs.cons Mm.m4 Rs.nil)) fun _ _ => ?_
        refine .dnil ?_
        exact .dst ⟨u10, u11, u15, u18⟩ trivial (.cons Mm.m0 .nil) (Ls.of (.cons .k0 (.cons .k0 .nil))) (.cons Mm.m0 (.cons Mm.m1 (.cons Mm.m2 (.cons Mm.m3 (.cons Mm.m4 .nil)))))
    · obtain ⟨u10, u11, u15, u18⟩ := x_
      refine .then ?_
      refine .ret ?_
      cases h
      exact .finw u18 (.r1 rfl (.cell .g0 .k0 (.agg isAgg53 sizeOf53 rfl rfl))) trivial (Ls.of .nil) (.cons Mm.m0 .nil)
attribute [irreducible] narrowsref06_Text
noncomputable def narrowsref06_Num (a0 : narrowsref06_W) (a1 : Int) : Option (narrowsref06_W) :=
  thn (if (decide (a1 < 0)) = true then true else (decide (a1 > 1099511627776))) fun (y3 : Bool) => if y3 = true then (Option.bind (narrowsref06_put a0 ([] : List UInt8) 4) fun r8 => some r8) else (Option.bind (narrowsref01_Num a1 6) fun r12 => Option.bind (narrowsref06_put a0 r12 0) fun r15 => some r15)
set_option maxRecDepth 20000 in
set_option maxHeartbeats 1000000 in
theorem S_narrowsref06_Num (a0 : narrowsref06_W) (z00a : Value) (a1 : Int) (r : narrowsref06_W) (h : narrowsref06_Num a0 a1 = some r) :
    SpecF Try.prog 19 [Ag (narrowsref06_W.cs a0 z00a), N a1] [] [rows 1 z00a (a0.B.map (fun x => [B8 x]))] (fun z : Value => True) (fun z => Ag (narrowsref06_W.cs r z)) (fun z M =>  M) (fun z M => rows 1 z (r.B.map (fun x => [B8 x])) ::  M) := by
  refine .of func19 rfl ntmps19 rfl fun w0 D0 G0 => ?_
  unfold narrowsref06_Num at h
  refine .seq ?_
  refine .reg rfl ?_
  refine .opx (X.box (cs := (narrowsref06_W.cs a0 z00a)) .t0 rfl) rfl fun b1 => ?_
  refine .opx (X.alc (cs := (narrowsref06_W.cs ⟨[], 0⟩ nilSl)) zeroValue53 rfl) rfl fun b2 => ?_
  refine .nil ?_
  refine .then ?_
  refine .seq ?_
  obtain ⟨y3, hj5, h⟩ := thn_eq h
  refine .cutx (γ := Unit) (E1 := fun z4 => [(10, Bo y3), (4, pt b2 0), (2, pt b1 0), (1, N a1)]) (L1 := fun z4 => [blk b2 53 (narrowsref06_W.cs ⟨[], 0⟩ nilSl), blk b1 53 (narrowsref06_W.cs a0 z00a)]) (R1 := fun z4 => [rows 1 z00a (a0.B.map (fun x => [B8 x]))]) ?_ (fun z4 => ?_)
  · clear h
    refine .reg rfl ?_
    refine .opp (P.mov .g2) rfl ?_
    refine .opp (P.bin .t0 .k .lss) rfl ?_
    refine .opp (P.mov .t0) rfl ?_
    refine .split .k0 (fun c6 => ?_) (fun c6 => ?_)
    · rw [if_pos c6] at hj5
      refine .gno rfl .g0 rfl rfl ?_
      refine .gno rfl .g0 rfl rfl ?_
      refine .opp (P.pickT .t0 .k) rfl ?_
      refine .nil ?_
      subst hj5
      exact .stj () (.cons Mm.m0 (.cons Mm.m1 (.cons Mm.m2 (.cons Mm.m3 .nil)))) (.of (.cons .k0 (.cons .k0 .nil))) (.cons Mm.m0 .nil)
    · rw [if_neg (ne_true_of_eq_false c6)] at hj5
      refine .gyes rfl .g0 ?_
      refine .opp (P.mov .g3) rfl ?_
      refine .gyes rfl .g1 ?_
      refine .opp (P.bin .t0 .k .gtr) rfl ?_
      refine .opp (P.pickF .t1 .t0) rfl ?_
      refine .nil ?_
      subst hj5
      exact .stj () (.cons Mm.m0 (.cons Mm.m1 (.cons Mm.m2 (.cons Mm.m3 .nil)))) (.of (.cons .k0 (.cons .k0 .nil))) (.cons Mm.m0 .nil)
  · clear hj5
    refine .cond .t0 (fun c7 => ?_) (fun c7 => ?_)
    · rw [if_pos c7] at h
      refine .seq ?_
      refine .reg rfl ?_
      refine .op (V.ld (v := Ag (narrowsref06_W.cs a0 z00a)) .t1 .k1 (.agg isAgg53 sizeOf53 rfl rfl)) rfl ?_
      refine .rnil0 1 ?_
      obtain ⟨r8, hr9, h⟩ := bnd_eq h
      refine .opg (G.call call30 (.cons .t0 (.cons .k (.cons .k .nil))) (S_narrowsref06_put a0 z00a nilSl ([] : List UInt8) 4 r8 hr9) .nil (.cons Mm.m1 (.cons Mm.m0 .nil)) (fun _ _ => rfl) (fun _ _ => rfl) rfl) rfl fun u10 _ => ?_
      refine .oner Mm.m0 fun ho11 => ?_
      refine .opg (G.str .t0 .g0 .k0 (.mk (cs' := (narrowsref06_W.cs r8 u10)) sizeOf53 rfl (onez_53 _ ho11) rfl rfl)) rfl fun _ _ => ?_
      refine .nil ?_
      refine .then ?_
      refine .ret ?_
      refine .thr ?_
      cases h
      exact .finw u10 (.r1 rfl (.cell .g0 .k0 (.agg isAgg53 sizeOf53 rfl rfl))) trivial (Ls.of .nil) (.cons Mm.m0 .nil)
    · rw [if_neg (ne_true_of_eq_false c7)] at h
      refine .skip ?_
      refine .then ?_
      refine .seq ?_
      refine .drawl [blk b1 53 (narrowsref06_W.cs a0 z00a)] [rows 1 z00a (a0.B.map (fun x => [B8 x]))] (Ls.of (.cons .k1 .nil)) (Rs.cons Mm.m0 Rs.nil) 5 (.on 1 .pu (.on 0 .ld (.on 2 .go (.on 3 .go (.on 4 .go .nl))))) follows_mixed (.thn .body) (by kernel_rfl) ?_
      refine .dpu rfl (.n rfl) (P.mov .t2) rfl rfl ?_
      refine .dld rfl (.n rfl) (V.ld (v := Ag (narrowsref06_W.cs a0 z00a)) .t2 .k0 (.agg isAgg53 sizeOf53 rfl rfl)) (fun _ h => (h.imp (Ls.of (.cons .k1 .nil))).ro (Rs.cons Mm.m0 Rs.nil)) rfl rfl ?_
      obtain ⟨r12, hr13, h⟩ := bnd_eq h
      refine .dgo rfl (.n rfl) (G.call call33 (.cons .t1 (.cons .k .nil)) (S_narrowsref01_Num a1 6 r12 hr13) .nil .nil (fun _ _ => rfl) (fun _ _ => rfl) rfl) (.inr fun _ _ _ h => (h.imp (Ls.of (.cons .k2 .nil))).ro (Rs.cons Mm.m0 Rs.nil)) fun u14 _ => ?_
      refine .frz .k0 ?_
      obtain ⟨r15, hr16, h⟩ := bnd_eq h
      refine .dgo rfl (.n rfl) (G.call call30 (.cons .t1 (.cons .t0 (.cons .k .nil))) (S_narrowsref06_put a0 z00a u14 r12 0 r15 hr16) .nil (.cons Mm.m1 (.cons Mm.m0 .nil)) (fun _ _ => rfl) (fun _ _ => rfl) rfl) (.inr fun _ _ _ h => (h.imp (Ls.of (.cons .k1 .nil))).ro (Rs.cons Mm.m2 Rs.nil)) fun u17 _ => ?_
      refine .oner Mm.m0 fun ho18 => ?_
      refine .dgo rfl (.n rfl) (G.str .t0 .g0 .k0 (.mk (cs' := (narrowsref06_W.cs r15 u17)) sizeOf53 rfl (onez_53 _ ho18) rfl rfl)) (.inr fun _ _ _ h => (h.imp (Ls.of (.cons .k1 .nil))).ro (Rs.cons Mm.m2 Rs.nil)) fun _ _ => ?_
      refine .dnil ?_
      refine .then ?_
      refine .ret ?_
      cases h
      exact .finw u17 (.r1 rfl (.cell .g0 .k0 (.agg isAgg53 sizeOf53 rfl rfl))) trivial (Ls.of .nil) (.cons Mm.m0 .nil)
attribute [irreducible] narrowsref06_Num
noncomputable def narrowsref06_PutInv (a0 : narrowsref06_W) (a1 : api_Inv) : Option (narrowsref06_W) :=
  Option.bind (narrowsref06_Text a0 ⟨#[105, 110, 118]⟩) fun r4 => Option.bind (narrowsref06_Num r4 a1.User) fun r7 => Option.bind (narrowsref06_Text r7 a1.Root) fun r10 => Option.bind (narrowsref06_Num r10 a1.Router) fun r14 => Option.bind (narrowsref06_Num r14 a1.Send) fun r17 => Option.bind (narrowsref06_Num r17 a1.Recv) fun r20 => Option.bind (narrowsref06_Num r20 a1.To) fun r23 => Option.bind (narrowsref06_Text r23 a1.Id) fun r27 => some r27
set_option maxRecDepth 20000 in
set_option maxHeartbeats 1000000 in
theorem S_narrowsref06_PutInv (a0 : narrowsref06_W) (z00a : Value) (a1 : api_Inv) (r : narrowsref06_W) (h : narrowsref06_PutInv a0 a1 = some r) :
    SpecF Try.prog 14 [Ag (narrowsref06_W.cs a0 z00a), Ag (api_Inv.cs a1)] [] [rows 1 z00a (a0.B.map (fun x => [B8 x]))] (fun z : Value => True) (fun z => Ag (narrowsref06_W.cs r z)) (fun z M =>  M) (fun z M => rows 1 z (r.B.map (fun x => [B8 x])) ::  M) := by
  refine .of func14 rfl ntmps14 rfl fun w0 D0 G0 => ?_
  unfold narrowsref06_PutInv at h
  refine .seq ?_
  refine .reg rfl ?_
  refine .opx (X.box (cs := (narrowsref06_W.cs a0 z00a)) .t0 rfl) rfl fun b1 => ?_
  refine .opx (X.box (cs := (api_Inv.cs a1)) .t1 rfl) rfl fun b2 => ?_
  refine .opx (X.alc (cs := (narrowsref06_W.cs ⟨[], 0⟩ nilSl)) zeroValue53 rfl) rfl fun b3 => ?_
  refine .nil ?_
  refine .then ?_
  refine .seq ?_
  obtain ⟨r4, hr5, h⟩ := bnd_eq h
  obtain ⟨r7, hr8, h⟩ := bnd_eq h
  obtain ⟨r10, hr11, h⟩ := bnd_eq h
  refine .dcut (γ := Value × Value × Value) (φ := fun _ => True) (E1 := fun x_ => [(4, pt b3 0), (3, pt b2 0), (2, pt b1 0)]) (L1 := fun x_ => [blk b1 53 (narrowsref06_W.cs r10 x_.2.2), blk b3 53 (narrowsref06_W.cs ⟨[], 0⟩ nilSl), blk b2 30 (api_Inv.cs a1)]) (R1 := fun x_ => [rows 1 x_.2.2 (r10.B.map (fun x => [B8 x])), rows 1 x_.2.1 (r7.B.map (fun x => [B8 x])), rows 1 x_.1 (r4.B.map (fun x => [B8 x])), rows 1 z00a (a0.B.map (fun x => [B8 x]))]) ?_ (fun x_ _ => ?_)
  · refine .draw 4 (.on 2 .pu (.on 5 .pu (.on 3 .ld (.fk 0 6 (.fk 1 6 (.fk 4 6 (.on 6 .go (.on 7 .go (.on 8 .go .nl))) (.on 4 .go (.on 7 .go (.on 8 .go .nl)))) (.on 1 .go (.on 4 .go (.on 7 .go (.on 8 .go .nl))))) (.on 0 .go (.on 1 .go (.on 4 .go (.on 7 .go (.on 8 .go .nl))))))))) follows_mixed (.thn (.thn .body)) (by kernel_rfl) ?_
    refine .dpu rfl (.n rfl) (P.fa .g1 fa_30_0 rfl) rfl rfl ?_
    refine .dpu rfl (.n rfl) (P.fa .g2 fa_30_1 rfl) rfl rfl ?_
    refine .dld rfl (.n rfl) (V.ld (v := N a1.User) .t1 .k1 (.one isAgg3 rfl)) (fun _ h => h) rfl rfl ?_
    refine .dfk ?_ ?_
    · refine .dgo rfl (.n rfl) (OpV.g (V.ld (v := Ag (narrowsref06_W.cs a0 z00a)) .g4 .k2 (.agg isAgg53 sizeOf53 rfl rfl)) rfl) (.inr fun _ _ _ h => h) fun _ _ => ?_
      refine .dfk ?_ ?_
      · refine .dgo rfl (.n rfl) (G.call call18 (.cons .t0 (.cons .k .nil)) (S_narrowsref06_Text a0 z00a ⟨#[105, 110, 118]⟩ r4 hr5) .nil (.cons Mm.m0 .nil) (fun _ _ => rfl) (fun _ _ => rfl) rfl) (.inr fun _ _ _ h => (h.imp (Ls.of (.cons .k0 (.cons .k0 (.cons .k0 .nil))))).ro (Rs.cons Mm.m1 Rs.nil)) fun u6 _ => ?_
        refine .dfk ?_ ?_
        · refine .dgo rfl (.n rfl) (G.call call19 (.cons .t0 (.cons .t0 .nil)) (S_narrowsref06_Num r4 u6 a1.User r7 hr8) .nil (.cons Mm.m0 .nil) (fun _ _ => rfl) (fun _ _ => rfl) rfl) (.inl rfl) fun u9 _ => ?_
          refine .dgo rfl (.n rfl) (OpV.g (V.ld (v := .string a1.Root) .t1 .k1 (.one isAgg9 rfl)) rfl) (.inl rfl) fun _ _ => ?_
          refine .dgo rfl (.n rfl) (G.call call18 (.cons .t1 (.cons .t0 .nil)) (S_narrowsref06_Text r7 u9 a1.Root r10 hr11) .nil (.cons Mm.m0 .nil) (fun _ _ => rfl) (fun _ _ => rfl) rfl) (.inl rfl) fun u12 _ => ?_
          refine .oner Mm.m0 fun ho13 => ?_
          refine .dgo rfl (.n rfl) (G.str .t0 .g2 .k2 (.mk (cs' := (narrowsref06_W.cs r10 u12)) sizeOf53 rfl (onez_53 _ ho13) rfl rfl)) (.inl rfl) fun _ _ => ?_
          refine .dnil ?_
          exact .dst ⟨u6, u9, u12⟩ trivial (.cons Mm.m0 (.cons Mm.m1 (.cons Mm.m2 .nil))) (Ls.of (.cons .k0 (.cons .k0 (.cons .k0 .nil)))) (.cons Mm.m0 (.cons Mm.m1 (.cons Mm.m2 (.cons Mm.m3 .nil))))
        · refine .dgo rfl (.n rfl) (OpV.g (V.ld (v := .string a1.Root) .t2 .k1 (.one isAgg9 rfl)) rfl) (.inr fun _ _ _ h => (h.imp (Ls.of (.cons .k0 (.cons .k0 (.cons .k0 .nil))))).ro (Rs.cons Mm.m1 Rs.nil)) fun _ _ => ?_
          refine .dgo rfl (.n rfl) (G.call call19 (.cons .t1 (.cons .t1 .nil)) (S_narrowsref06_Num r4 u6 a1.User r7 hr8) .nil (.cons Mm.m0 .nil) (fun _ _ => rfl) (fun _ _ => rfl) rfl) (.inl rfl) fun u9 _ => ?_
          refine .dgo rfl (.n rfl) (G.call call18 (.cons .t0 (.cons .t0 .nil)) (S_narrowsref06_Text r7 u9 a1.Root r10 hr11) .nil (.cons Mm.m0 .nil) (fun _ _ => rfl) (fun _ _ => rfl) rfl) (.inl rfl) fun u12 _ => ?_
          refine .oner Mm.m0 fun ho13 => ?_
          refine .dgo rfl (.n rfl) (G.str .t0 .g2 .k2 (.mk (cs' := (narrowsref06_W.cs r10 u12)) sizeOf53 rfl (onez_53 _ ho13) rfl rfl)) (.inl rfl) fun _ _ => ?_
          refine .dnil ?_
          exact .dst ⟨u6, u9, u12⟩ trivial (.cons Mm.m0 (.cons Mm.m1 (.cons Mm.m2 .nil))) (Ls.of (.cons .k0 (.cons .k0 (.cons .k0 .nil)))) (.cons Mm.m0 (.cons Mm.m1 (.cons Mm.m2 (.cons Mm.m3 .nil))))
      · refine .dgo rfl (.n rfl) (OpV.g (V.ld (v := .string a1.Root) .t2 .k1 (.one isAgg9 rfl)) rfl) (.inr fun _ _ _ h => h) fun _ _ => ?_
        refine .dgo rfl (.n rfl) (G.call call18 (.cons .t1 (.cons .k .nil)) (S_narrowsref06_Text a0 z00a ⟨#[105, 110, 118]⟩ r4 hr5) .nil (.cons Mm.m0 .nil) (fun _ _ => rfl) (fun _ _ => rfl) rfl) (.inr fun _ _ _ h => (h.imp (Ls.of (.cons .k0 (.cons .k0 (.cons .k0 .nil))))).ro (Rs.cons Mm.m1 Rs.nil)) fun u6 _ => ?_
        refine .dgo rfl (.n rfl) (G.call call19 (.cons .t0 (.cons .t1 .nil)) (S_narrowsref06_Num r4 u6 a1.User r7 hr8) .nil (.cons Mm.m0 .nil) (fun _ _ => rfl) (fun _ _ => rfl) rfl) (.inl rfl) fun u9 _ => ?_
        refine .dgo rfl (.n rfl) (G.call call18 (.cons .t0 (.cons .t0 .nil)) (S_narrowsref06_Text r7 u9 a1.Root r10 hr11) .nil (.cons Mm.m0 .nil) (fun _ _ => rfl) (fun _ _ => rfl) rfl) (.inl rfl) fun u12 _ => ?_
        refine .oner Mm.m0 fun ho13 => ?_
        refine .dgo rfl (.n rfl) (G.str .t0 .g2 .k2 (.mk (cs' := (narrowsref06_W.cs r10 u12)) sizeOf53 rfl (onez_53 _ ho13) rfl rfl)) (.inl rfl) fun _ _ => ?_
        refine .dnil ?_
        exact .dst ⟨u6, u9, u12⟩ trivial (.cons Mm.m0 (.cons Mm.m1 (.cons Mm.m2 .nil))) (Ls.of (.cons .k0 (.cons .k0 (.cons .k0 .nil)))) (.cons Mm.m0 (.cons Mm.m1 (.cons Mm.m2 (.cons Mm.m3 .nil))))
    · refine .dgo rfl (.n rfl) (OpV.g (V.ld (v := .string a1.Root) .t1 .k1 (.one isAgg9 rfl)) rfl) (.inr fun _ _ _ h => h) fun _ _ => ?_
      refine .dgo rfl (.n rfl) (OpV.g (V.ld (v := Ag (narrowsref06_W.cs a0 z00a)) .g4 .k2 (.agg isAgg53 sizeOf53 rfl rfl)) rfl) (.inr fun _ _ _ h => h) fun _ _ => ?_
      refine .dgo rfl (.n rfl) (G.call call18 (.cons .t0 (.cons .k .nil)) (S_narrowsref06_Text a0 z00a ⟨#[105, 110, 118]⟩ r4 hr5) .nil (.cons Mm.m0 .nil) (fun _ _ => rfl) (fun _ _ => rfl) rfl) (.inr fun _ _ _ h => (h.imp (Ls.of (.cons .k0 (.cons .k0 (.cons .k0 .nil))))).ro (Rs.cons Mm.m1 Rs.nil)) fun u6 _ => ?_
      refine .dgo rfl (.n rfl) (G.call call19 (.cons .t0 (.cons .t1 .nil)) (S_narrowsref06_Num r4 u6 a1.User r7 hr8) .nil (.cons Mm.m0 .nil) (fun _ _ => rfl) (fun _ _ => rfl) rfl) (.inl rfl) fun u9 _ => ?_
      refine .dgo rfl (.n rfl) (G.call call18 (.cons .t0 (.cons .t0 .nil)) (S_narrowsref06_Text r7 u9 a1.Root r10 hr11) .nil (.cons Mm.m0 .nil) (fun _ _ => rfl) (fun _ _ => rfl) rfl) (.inl rfl) fun u12 _ => ?_
      refine .oner Mm.m0 fun ho13 => ?_
      refine .dgo rfl (.n rfl) (G.str .t0 .g2 .k2 (.mk (cs' := (narrowsref06_W.cs r10 u12)) sizeOf53 rfl (onez_53 _ ho13) rfl rfl)) (.inl rfl) fun _ _ => ?_
      refine .dnil ?_
      exact .dst ⟨u6, u9, u12⟩ trivial (.cons Mm.m0 (.cons Mm.m1 (.cons Mm.m2 .nil))) (Ls.of (.cons .k0 (.cons .k0 (.cons .k0 .nil)))) (.cons Mm.m0 (.cons Mm.m1 (.cons Mm.m2 (.cons Mm.m3 .nil))))
  · obtain ⟨u6, u9, u12⟩ := x_
    refine .then ?_
    refine .seq ?_
    refine .draw 13 (.on 1 .pu (.on 4 .pu (.on 7 .pu (.on 10 .pu (.on 0 .ld (.on 2 .ld (.on 5 .ld (.on 8 .ld (.on 11 .ld (.on 3 .go (.on 6 .go (.on 9 .go (.on 12 .go (.on 13 .go .nl)))))))))))))) follows_mixed (.thn .body) (by kernel_rfl) ?_
    refine .dpu rfl (.n rfl) (P.fa .g1 fa_30_2 rfl) rfl rfl ?_
    refine .dpu rfl (.n rfl) (P.fa .g2 fa_30_3 rfl) rfl rfl ?_
    refine .dpu rfl (.n rfl) (P.fa .g3 fa_30_4 rfl) rfl rfl ?_
    refine .dpu rfl (.n rfl) (P.fa .g4 fa_30_5 rfl) rfl rfl ?_
    refine .dld rfl (.n rfl) (V.ld (v := Ag (narrowsref06_W.cs r10 u12)) .g6 .k0 (.agg isAgg53 sizeOf53 rfl rfl)) (fun _ h => h) rfl rfl ?_
    refine .dld rfl (.n rfl) (V.ld (v := N a1.Router) .t4 .k2 (.one isAgg3 rfl)) (fun _ h => h) rfl rfl ?_
    refine .dld rfl (.n rfl) (V.ld (v := N a1.Send) .t4 .k2 (.one isAgg3 rfl)) (fun _ h => h) rfl rfl ?_
    refine .dld rfl (.n rfl) (V.ld (v := N a1.Recv) .t4 .k2 (.one isAgg3 rfl)) (fun _ h => h) rfl rfl ?_
    refine .dld rfl (.n rfl) (V.ld (v := N a1.To) .t4 .k2 (.one isAgg3 rfl)) (fun _ h => h) rfl rfl ?_
    obtain ⟨r14, hr15, h⟩ := bnd_eq h
    refine .dgo rfl (.n rfl) (G.call call19 (.cons .t4 (.cons .t3 .nil)) (S_narrowsref06_Num r10 u12 a1.Router r14 hr15) .nil (.cons Mm.m0 .nil) (fun _ _ => rfl) (fun _ _ => rfl) rfl) (.inr fun _ _ _ h => (h.imp (Ls.of (.cons .k0 (.cons .k0 (.cons .k0 .nil))))).ro (Rs.cons Mm.m1 (Rs.cons Mm.m2 (Rs.cons Mm.m3 (Rs.cons Mm.m4 Rs.nil))))) fun u16 _ => ?_
    obtain ⟨r17, hr18, h⟩ := bnd_eq h
    refine .dgo rfl (.n rfl) (G.call call19 (.cons .t0 (.cons .t2 .nil)) (S_narrowsref06_Num r14 u16 a1.Send r17 hr18) .nil (.cons Mm.m0 .nil) (fun _ _ => rfl) (fun _ _ => rfl) rfl) (.inr fun _ _ _ h => (h.imp (Ls.of (.cons .k0 (.cons .k0 (.cons .k0 .nil))))).ro (Rs.cons Mm.m2 (Rs.cons Mm.m3 (Rs.cons Mm.m4 (Rs.cons Mm.m5 Rs.nil))))) fun u19 _ => ?_
    obtain ⟨r20, hr21, h⟩ := bnd_eq h
    refine .dgo rfl (.n rfl) (G.call call19 (.cons .t0 (.cons .t1 .nil)) (S_narrowsref06_Num r17 u19 a1.Recv r20 hr21) .nil (.cons Mm.m0 .nil) (fun _ _ => rfl) (fun _ _ => rfl) rfl) (.inr fun _ _ _ h => (h.imp (Ls.of (.cons .k0 (.cons .k0 (.cons .k0 .nil))))).ro (Rs.cons Mm.m3 (Rs.cons Mm.m4 (Rs.cons Mm.m5 (Rs.cons Mm.m6 Rs.nil))))) fun u22 _ => ?_
    obtain ⟨r23, hr24, h⟩ := bnd_eq h
    refine .dgo rfl (.n rfl) (G.call call19 (.cons .t0 (.cons .t0 .nil)) (S_narrowsref06_Num r20 u22 a1.To r23 hr24) .nil (.cons Mm.m0 .nil) (fun _ _ => rfl) (fun _ _ => rfl) rfl) (.inr fun _ _ _ h => (h.imp (Ls.of (.cons .k0 (.cons .k0 (.cons .k0 .nil))))).ro (Rs.cons Mm.m4 (Rs.cons Mm.m5 (Rs.cons Mm.m6 (Rs.cons Mm.m7 Rs.nil))))) fun u25 _ => ?_
    refine .oner Mm.m0 fun ho26 => ?_
    refine .dgo rfl (.n rfl) (G.str .t0 .g2 .k0 (.mk (cs' := (narrowsref06_W.cs r23 u25)) sizeOf53 rfl (onez_53 _ ho26) rfl rfl)) (.inl rfl) fun _ _ => ?_
    refine .dnil ?_
    refine .then ?_
    refine .seq ?_
    refine .reg rfl ?_
    refine .op (V.ld (v := Ag (narrowsref06_W.cs r23 u25)) .t2 .k0 (.agg isAgg53 sizeOf53 rfl rfl)) rfl ?_
    refine .opp (P.fa .t2 fa_30_6 rfl) rfl ?_
    refine .op (V.ld (v := .string a1.Id) .t0 .k2 (.one isAgg9 rfl)) rfl ?_
    obtain ⟨r27, hr28, h⟩ := bnd_eq h
    refine .opg (G.call call18 (.cons .t1 (.cons .t0 .nil)) (S_narrowsref06_Text r23 u25 a1.Id r27 hr28) .nil (.cons Mm.m0 .nil) (fun _ _ => rfl) (fun _ _ => rfl) rfl) rfl fun u29 _ => ?_
    refine .oner Mm.m0 fun ho30 => ?_
    refine .opg (G.str .t0 .g0 .k1 (.mk (cs' := (narrowsref06_W.cs r27 u29)) sizeOf53 rfl (onez_53 _ ho30) rfl rfl)) rfl fun _ _ => ?_
    refine .nil ?_
    refine .then ?_
    refine .ret ?_
    cases h
    exact .finw u29 (.r1 rfl (.cell .g0 .k0 (.agg isAgg53 sizeOf53 rfl rfl))) trivial (Ls.of .nil) (.cons Mm.m0 .nil)
attribute [irreducible] narrowsref06_PutInv
end Go.Sl
