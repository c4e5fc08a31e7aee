/- Walked code of the program, its pure functions and their contracts. -/
import Derived.Test.YteijfoldbinghaaSlGx
set_option linter.unusedVariables false
set_option linter.unusedSimpArgs false
namespace Go.Sl
open Go.Proofs Go.Proofs.Try
structure exposure_Row where
  Router : Int
  Vault : A2_api_Wide
  Out : A2_api_Wide
  Open : Int
  deriving DecidableEq
def exposure_Row.cs (x : exposure_Row) : List Value := [N x.Router, U x.Vault.a0.a0, U x.Vault.a0.a1, U x.Vault.a0.a2, U x.Vault.a0.a3, U x.Vault.a1.a0, U x.Vault.a1.a1, U x.Vault.a1.a2, U x.Vault.a1.a3, U x.Out.a0.a0, U x.Out.a0.a1, U x.Out.a0.a2, U x.Out.a0.a3, U x.Out.a1.a0, U x.Out.a1.a1, U x.Out.a1.a2, U x.Out.a1.a3, N x.Open]
def exposure_Row.z : exposure_Row := ⟨0, A2_api_Wide.z, A2_api_Wide.z, 0⟩
theorem fa_32_2 : FaV Try.prog 32 2 2 := .mk runUnderlying32 rfl sizeOf3 rfl rfl
theorem fa_36_5 : FaV Try.prog 36 5 8 := .mk runUnderlying36 rfl sizeOf32 rfl rfl
theorem fa_64_3 : FaV Try.prog 64 3 66 := .mk runUnderlying64 rfl sizeOf60 rfl rfl
theorem fa_83_0 : FaV Try.prog 83 0 0 := .mk runUnderlying83 rfl sizeOf3 rfl rfl
theorem fa_83_1 : FaV Try.prog 83 1 1 := .mk runUnderlying83 rfl sizeOf54 rfl rfl
theorem fa_83_2 : FaV Try.prog 83 2 9 := .mk runUnderlying83 rfl sizeOf54 rfl rfl
theorem fa_83_3 : FaV Try.prog 83 3 17 := .mk runUnderlying83 rfl sizeOf3 rfl rfl
theorem pl_83 : ∀ w, ((#[{ name := "Router", type := 3, offset := 0, embedded := false, tag := "", pkgPath := "", byteOffset := 0 }, { name := "Vault", type := 54, offset := 1, embedded := false, tag := "", pkgPath := "", byteOffset := 8 }, { name := "Out", type := 54, offset := 9, embedded := false, tag := "", pkgPath := "", byteOffset := 72 }, { name := "Open", type := 3, offset := 17, embedded := false, tag := "", pkgPath := "", byteOffset := 136 }] : Array Field).mapM fun f => do pure (f.offset, ← sizeOf f.type) : Sem (Array (Nat × Nat))).run Try.prog w = .ok #[(0, 1), (1, 8), (9, 8), (17, 1)] w := fun w => by simp [sizeOf3, sizeOf54]
theorem one_83 (x : exposure_Row) : oneAll (exposure_Row.cs x) = true := rfl
theorem eqv_27 (d : Nat) (x y : api_Wide) : EqV Try.prog (d + 2) 27 (Ag x.cs) (Ag y.cs) (decide (x = y)) :=
  EqV.cast (.array (by kernel_rfl) sizeOf25 (.cons (.one isAgg25 rfl) (.one isAgg25 rfl) (EqV.u (by kernel_rfl)) (.cons (.one isAgg25 rfl) (.one isAgg25 rfl) (EqV.u (by kernel_rfl)) (.cons (.one isAgg25 rfl) (.one isAgg25 rfl) (EqV.u (by kernel_rfl)) (.cons (.one isAgg25 rfl) (.one isAgg25 rfl) (EqV.u (by kernel_rfl)) .nil))))) (by cases x; cases y; rw [Bool.eq_iff_iff]; simp [api_Wide.mk.injEq, and_assoc])
theorem eq_27_eql (x y : api_Wide) : BinV Try.prog .eql 27 (Ag x.cs) (Ag y.cs) (Bo (decide (x = y))) := .eqv (by kernel_rfl) (eqv_27 9998 x y)
theorem eq_27_neq (x y : api_Wide) : BinV Try.prog .neq 27 (Ag x.cs) (Ag y.cs) (Bo (decide (x ≠ y))) := by
  have := BinV.neqv (P := Try.prog) (by kernel_rfl) (eqv_27 9998 x y); rw [← decide_not'] at this; exact this
noncomputable def exposure_Of (a0 : escrow_State) (a1 : List api_Event) : Option ((List exposure_Row)) :=
  Option.bind (scan_Deals a1) fun r2 => Option.bind (loopR (fun (i6 : Nat) (e9 : api_Tx) (s7 : Unit) => if (decide (e9.Inv.Router = 2)) = true then none else (some (.nx ()))) 0 r2 ()) fun o10 => Lo.on o10 fun (s7 : Unit) => Option.bind (loopR (fun (i28 : Nat) (e31 : api_Tx) (s29 : Unit) => if (decide (e31.Inv.Router = 3)) = true then none else (some (.nx ()))) 0 r2 ()) fun o32 => Lo.on o32 fun (s29 : Unit) => some ([⟨2, a0.Vault.a2, ⟨⟨0, 0, 0, 0⟩, ⟨0, 0, 0, 0⟩⟩, 0⟩, ⟨3, a0.Vault.a3, ⟨⟨0, 0, 0, 0⟩, ⟨0, 0, 0, 0⟩⟩, 0⟩] : List exposure_Row)
set_option maxRecDepth 20000 in
set_option maxHeartbeats 1000000 in
theorem S_exposure_Of (a0 : escrow_State) (z00a : Value) (v01 : Value) (a1 : List api_Event) (r : (List exposure_Row)) (h : exposure_Of a0 a1 = some r) :
    SpecF Try.prog 36 [Ag (escrow_State.cs a0 z00a), v01] [] [rows 3 z00a (a0.Locks.map escrow_Lock.cs), rows 27 v01 (a1.map api_Event.cs)] (fun _ : Value => True) (fun z => z) (fun z M => lst 83 18 z (r.map exposure_Row.cs) ::  M) (fun z M =>  M) := by
  refine .of func36 rfl ntmps36 rfl fun w0 D0 G0 => ?_
  unfold exposure_Of at h
  refine .seq ?_
  refine .reg rfl ?_
  refine .opx (X.box (cs := (escrow_State.cs a0 z00a)) .t0 rfl) rfl fun b1 => ?_
  refine .op0 (OpP.toV (P.asg .k)) rfl ?_
  refine .nil ?_
  refine .then ?_
  refine .seq ?_
  refine .reg rfl ?_
  refine .opp (P.asg .k) rfl ?_
  refine .nil ?_
  refine .then ?_
  refine .seq ?_
  refine .reg rfl ?_
  refine .opp (P.mov .t2) rfl ?_
  obtain ⟨r2, hr3, h⟩ := bnd_eq h
  refine .opg (G.call call37 (.cons .t0 .nil) (S_scan_Deals v01 a1 r2 hr3) .nil (.cons Mm.m1 .nil) (fun _ _ => rfl) (fun _ _ => rfl) rfl) rfl fun u4 _ => ?_
  refine .opp (P.asg .t0) rfl ?_
  refine .nil ?_
  refine .then ?_
  refine .seq ?_
  refine .seq ?_
  refine .reg rfl ?_
  refine .opp (P.asg .k) rfl ?_
  refine .nil ?_
  refine .then ?_
  refine .block ?_
  refine .rounds 3 ?_
  refine .rd ?_
  refine .seq ?_
  refine .seq ?_
  refine .reg rfl ?_
  refine .opp (P.mov .g0) rfl ?_
  refine .opp (P.bin (v := Bo true) .t0 .k (BinV.lss.boolc (by decide))) rfl ?_
  refine .nil ?_
  refine .then ?_
  refine .condT .t0 ?_
  refine .skip ?_
  refine .then ?_
  refine .seq ?_
  refine .block ?_
  refine .seq ?_
  refine .reg rfl ?_
  refine .opp (P.mov .g0) rfl ?_
  refine .opp (P.mov .g1) rfl ?_
  refine .opp (P.fa .g5 fa_64_3 rfl) rfl ?_
  refine .opp (P.iac (i := 2) .t1 rfl .t0 runUnderlying60 sizeOf54 rfl rfl) rfl ?_
  refine .op (V.ld (v := Ag (A2_api_Wide.cs a0.Vault.a2)) .t0 .k1 (.agg isAgg54 sizeOf54 rfl rfl)) rfl ?_
  refine .opp (P.bld (v := Ag (exposure_Row.cs ⟨2, a0.Vault.a2, ⟨⟨0, 0, 0, 0⟩, ⟨0, 0, 0, 0⟩⟩, 0⟩)) (.cons .t1 (.cons .t0 .nil)) (bld_run zeroValue83 runUnderlying83 pl_83 (by kernel_rfl))) rfl ?_
  refine .opx (X.alc (cs := (exposure_Row.cs ⟨0, ⟨⟨0, 0, 0, 0⟩, ⟨0, 0, 0, 0⟩⟩, ⟨⟨0, 0, 0, 0⟩, ⟨0, 0, 0, 0⟩⟩, 0⟩)) zeroValue83 rfl) rfl fun b5 => ?_
  refine .opg (G.str .t1 .g0 .k0 (.mk (cs' := (exposure_Row.cs ⟨2, a0.Vault.a2, ⟨⟨0, 0, 0, 0⟩, ⟨0, 0, 0, 0⟩⟩, 0⟩)) sizeOf83 rfl rfl rfl rfl)) rfl fun _ _ => ?_
  refine .nil ?_
  refine .then ?_
  refine .seq ?_
  refine .seq ?_
  refine .reg rfl ?_
  refine .opp (P.mov .g2) rfl ?_
  refine .op (V.lnl (n := r2.length) .g0 .k1 map_len runUnderlying80) rfl ?_
  refine .opp (P.mov .k) rfl ?_
  refine .nil ?_
  refine .then ?_
  refine .block ?_
  refine .frz .k1 ?_
  refine .lnil 83 18 ?_
  obtain ⟨o10, ho11, h⟩ := bnd_eq h
  refine .lenq Mm.m0 fun hl17 => ?_
  rw [map_len] at hl17
  refine .loopR (γ := Unit) (fun i6 (s7 : Unit) z8 => [(25, N ((i6 : Int))), (24, N ((r2.length : Int))), (23, u4), (8, pt b5 0), (7, N 2), (6, u4), (5, nilSl), (2, pt b1 0)]) (fun (s7 : Unit) z8 => [blk b5 83 (exposure_Row.cs ⟨2, a0.Vault.a2, ⟨⟨0, 0, 0, 0⟩, ⟨0, 0, 0, 0⟩⟩, 0⟩), blk b1 64 (escrow_State.cs a0 z00a)]) (fun (s7 : Unit) z8 => [rows 25 u4 (r2.map api_Tx.cs), rows 3 z00a (a0.Locks.map escrow_Lock.cs), rows 27 v01 (a1.map api_Event.cs)]) () ho11 (.cons Mm.m0 (.cons Mm.m1 (.cons Mm.m2 (.cons Mm.m3 (.cons Mm.m4 (.cons Mm.m5 (.cons Mm.m6 (.cons Mm.m7 .nil)))))))) (.of (.cons .k1 (.cons .k1 .nil))) (.cons Mm.m0 (.cons Mm.m1 (.cons Mm.m2 .nil))) (fun i6 s7 z8 hi18 hr14 => ?_)
  refine .seq ?_
  refine .reg rfl ?_
  refine .opp (P.bin (v := Bo (decide ((i6 : Int) < (r2.length : Nat)))) .g0 .g1 .lss) rfl ?_
  refine .nil ?_
  refine .then ?_
  refine .seq ?_
  refine .cond .t0 (fun c19 => ?_) (fun c19 => ?_)
  · obtain ⟨e9, hx16⟩ := get_of c19
    obtain ⟨ct15, hc12, hn13⟩ := loopR_at hx16 hr14
    refine .skip ?_
    refine .then ?_
    refine .seq ?_
    refine .block ?_
    refine .seq ?_
    refine .reg rfl ?_
    refine .ixq Mm.m0 (map_get hx16) fun p20 q21 hq22 => ?_
    refine .opp (P.ixi (i := i6) .g0 rfl .g2 hq22 runUnderlying80 sizeOf36) rfl ?_
    refine .op (V.ldx0 (u := Ag (api_Tx.cs e9)) .t0 hq22 Mm.m0 (map_get hx16) (.agg isAgg36 sizeOf36 rfl rfl)) rfl ?_
    refine .opx (X.alc (cs := (api_Tx.cs ⟨0, 0, 0, 0, ⟨0, 0, 0, 0⟩, ⟨0, ⟨#[]⟩, 0, 0, 0, 0, ⟨#[]⟩⟩, ⟨⟨0, 0, 0, 0⟩, 0⟩, ⟨0, 0, 0, 0⟩, ⟨#[]⟩⟩)) zeroValue36 rfl) rfl fun b23 => ?_
    refine .opg (G.str .t1 .g0 .k0 (.mk (cs' := (api_Tx.cs e9)) sizeOf36 rfl rfl rfl rfl)) rfl fun _ _ => ?_
    refine .nil ?_
    refine .then ?_
    refine .seq ?_
    refine .draw 13 (.on 0 .pu (.on 1 .pu (.on 3 .pu (.on 2 .ld (.on 4 .pu (.on 5 .pu (.on 7 .pu (.on 6 .ld (.on 8 .ld (.on 9 .go (.on 10 .go (.on 11 .pu (.on 12 .pu .nl))))))))))))) follows_mixed (.thn (.inb (.thn (.thn (.inb (.thn (.inb (.thn (.thn (.inb (.thn .body))))))))))) (by kernel_rfl) ?_
    refine .dpu rfl (.n rfl) (P.fa .g0 fa_36_5 rfl) rfl rfl ?_
    refine .dpu rfl (.n rfl) (P.fa .t0 fa_32_2 rfl) rfl rfl ?_
    refine .dpu rfl (.n rfl) (P.mov .g6) rfl rfl ?_
    refine .dld rfl (.n rfl) (V.ld (v := N e9.Inv.Router) .t1 .k0 (.one isAgg3 rfl)) (fun _ h => h) rfl rfl ?_
    refine .dpu rfl (.n rfl) (P.bin .t0 .t0 .eql) rfl rfl ?_
    refine .dpu rfl (.n rfl) (P.mov .t0) rfl rfl ?_
    refine .split .k0 (fun c24 => ?_) (fun c24 => ?_)
    · rw [if_pos c24] at hc12
      refine .dpu rfl (.g rfl rfl .g0 rfl) (P.fa .g1 fa_36_5 rfl) rfl rfl ?_
      refine .dld rfl (.g rfl rfl .g1 rfl) (V.ld (v := Ag (escrow_State.cs a0 z00a)) .g10 .k2 (.agg isAgg64 sizeOf64 rfl rfl)) (fun _ h => h) rfl rfl ?_
      refine .dld rfl (.g rfl rfl .g2 rfl) (V.ld (v := Ag (api_Inv.cs e9.Inv)) .t1 .k0 (.agg isAgg32 sizeOf32 rfl rfl)) (fun _ h => h) rfl rfl ?_
      cases hc12
    · rw [if_neg (ne_true_of_eq_false c24)] at hc12
      refine .dsk rfl (.g rfl rfl .g0 rfl) rfl rfl ?_
      refine .dskl rfl (.g rfl rfl .g0 rfl) (fun _ h => h) rfl rfl ?_
      refine .dskl rfl (.g rfl rfl .g0 rfl) (fun _ h => h) rfl rfl ?_
      refine .dskg rfl (.g rfl rfl .g0 rfl) (.inr fun _ h => h) rfl rfl ?_
      refine .dskg rfl (.g rfl rfl .g0 rfl) (.inr fun _ h => h) rfl rfl ?_
      refine .dsk rfl (.g rfl rfl .g0 rfl) rfl rfl ?_
      refine .dpu rfl (.n rfl) (P.pickF .t0 .k) rfl rfl ?_
      refine .dnil ?_
      refine .then ?_
      refine .condF .t0 ?_
      refine .skip ?_
      refine .inn ?_
      refine .then ?_
      refine .reg rfl ?_
      refine .opp (P.bin .g1 .k (.addc (inc_ok (lt_of_get hx16) hl17))) rfl ?_
      refine .drop .k2 ?_
      refine .opp (P.mov .t0) rfl ?_
      refine .nil ?_
      refine .lnil 83 18 ?_
      cases hc12
      exact .rdR () () hn13 (lt_of_get hx16) (.cons Mm.m0 (.cons Mm.m2 (.cons Mm.m3 (.cons Mm.m4 (.cons Mm.m5 (.cons Mm.m6 (.cons Mm.m7 (.cons Mm.m8 .nil)))))))) (.of (.cons .k2 (.cons .k2 .nil))) (.cons Mm.m0 (.cons Mm.m1 (.cons Mm.m2 .nil)))
  · obtain rfl := loopR_end (le_of_not c19) hr14
    have h := dn_on h
    refine .exit ?_
    refine .thx ?_
    refine .thx ?_
    refine .inb ?_
    refine .then ?_
    refine .reg rfl ?_
    refine .opp (P.mov .g6) rfl ?_
    refine .op (V.ld (v := Ag (exposure_Row.cs ⟨2, a0.Vault.a2, ⟨⟨0, 0, 0, 0⟩, ⟨0, 0, 0, 0⟩⟩, 0⟩)) .t4 .k0 (.agg isAgg83 sizeOf83 rfl rfl)) rfl ?_
    refine .opg (G.bsl (cs := (exposure_Row.cs ⟨2, a0.Vault.a2, ⟨⟨0, 0, 0, 0⟩, ⟨0, 0, 0, 0⟩⟩, 0⟩)) .t0 runUnderlying78 sizeOf83 zeroValue83 rfl rfl rfl rfl rfl) rfl fun u25 _ => ?_
    refine .lnil 83 18 ?_
    refine .opg (G.app (by_ := 144) .t1 .t0 .k0 (.inr (.inr ⟨_, Mm.m0⟩)) runUnderlying78 runUnderlying78 sizeOf83 typeInfo83 rfl rfl zeroValue83 rfl rfl (Nat.le_of_ble_eq_true rfl) rfl) rfl fun u26 _ => ?_
    refine .conseq .k0 (q := lst 83 18 u26 [(exposure_Row.cs ⟨2, a0.Vault.a2, ⟨⟨0, 0, 0, 0⟩, ⟨0, 0, 0, 0⟩⟩, 0⟩)]) (fun _ hh => hh) ?_
    refine .drop .k6 ?_
    refine .opp (P.asg .t0) rfl ?_
    refine .nil ?_
    refine .inn ?_
    refine .then ?_
    refine .reg rfl ?_
    refine .opp (P.mov .g4) rfl ?_
    refine .opp (P.bin (v := N 3) .t0 .k (.addc (by decide))) rfl ?_
    refine .drop .k5 ?_
    refine .opp (P.asg .t0) rfl ?_
    refine .nil ?_
    refine .then ?_
    refine .rd ?_
    refine .seq ?_
    refine .seq ?_
    refine .reg rfl ?_
    refine .opp (P.mov .g0) rfl ?_
    refine .opp (P.bin (v := Bo true) .t0 .k (BinV.lss.boolc (by decide))) rfl ?_
    refine .nil ?_
    refine .then ?_
    refine .condT .t0 ?_
    refine .skip ?_
    refine .then ?_
    refine .seq ?_
    refine .block ?_
    refine .seq ?_
    refine .reg rfl ?_
    refine .opp (P.mov .g0) rfl ?_
    refine .opp (P.mov .g1) rfl ?_
    refine .opp (P.fa .g8 fa_64_3 rfl) rfl ?_
    refine .opp (P.iac (i := 3) .t1 rfl .t0 runUnderlying60 sizeOf54 rfl rfl) rfl ?_
    refine .op (V.ld (v := Ag (A2_api_Wide.cs a0.Vault.a3)) .t0 .k3 (.agg isAgg54 sizeOf54 rfl rfl)) rfl ?_
    refine .opp (P.bld (v := Ag (exposure_Row.cs ⟨3, a0.Vault.a3, ⟨⟨0, 0, 0, 0⟩, ⟨0, 0, 0, 0⟩⟩, 0⟩)) (.cons .t1 (.cons .t0 .nil)) (bld_run zeroValue83 runUnderlying83 pl_83 (by kernel_rfl))) rfl ?_
    refine .opx (X.alc (cs := (exposure_Row.cs ⟨0, ⟨⟨0, 0, 0, 0⟩, ⟨0, 0, 0, 0⟩⟩, ⟨⟨0, 0, 0, 0⟩, ⟨0, 0, 0, 0⟩⟩, 0⟩)) zeroValue83 rfl) rfl fun b27 => ?_
    refine .opg (G.str .t1 .g0 .k0 (.mk (cs' := (exposure_Row.cs ⟨3, a0.Vault.a3, ⟨⟨0, 0, 0, 0⟩, ⟨0, 0, 0, 0⟩⟩, 0⟩)) sizeOf83 rfl rfl rfl rfl)) rfl fun _ _ => ?_
    refine .nil ?_
    refine .then ?_
    refine .seq ?_
    refine .seq ?_
    refine .reg rfl ?_
    refine .drop .k5 ?_
    refine .opp (P.mov .g5) rfl ?_
    refine .drop .k5 ?_
    refine .op (V.lnr (n := r2.length) .g0 Mm.m0 map_len runUnderlying80) rfl ?_
    refine .drop .k5 ?_
    refine .opp (P.mov .k) rfl ?_
    refine .nil ?_
    refine .then ?_
    refine .block ?_
    obtain ⟨o32, ho33, h⟩ := bnd_eq h
    refine .lenq Mm.m0 fun hl39 => ?_
    rw [map_len] at hl39
    refine .loopR (γ := Unit) (fun i28 (s29 : Unit) z30 => [(25, N ((i28 : Int))), (24, N ((r2.length : Int))), (23, u4), (8, pt b27 0), (7, N 3), (5, u26), (6, u4), (2, pt b1 0)]) (fun (s29 : Unit) z30 => [blk b27 83 (exposure_Row.cs ⟨3, a0.Vault.a3, ⟨⟨0, 0, 0, 0⟩, ⟨0, 0, 0, 0⟩⟩, 0⟩), blk b1 64 (escrow_State.cs a0 z00a), lst 83 18 u26 [(exposure_Row.cs ⟨2, a0.Vault.a2, ⟨⟨0, 0, 0, 0⟩, ⟨0, 0, 0, 0⟩⟩, 0⟩)]]) (fun (s29 : Unit) z30 => [rows 25 u4 (r2.map api_Tx.cs), rows 3 z00a (a0.Locks.map escrow_Lock.cs), rows 27 v01 (a1.map api_Event.cs)]) () ho33 (.cons Mm.m0 (.cons Mm.m1 (.cons Mm.m2 (.cons Mm.m3 (.cons Mm.m4 (.cons Mm.m5 (.cons Mm.m6 (.cons Mm.m7 .nil)))))))) (.of (.cons .k0 (.cons .k3 (.cons .k0 .nil)))) (.cons Mm.m0 (.cons Mm.m1 (.cons Mm.m2 .nil))) (fun i28 s29 z30 hi40 hr36 => ?_)
    refine .seq ?_
    refine .reg rfl ?_
    refine .opp (P.bin (v := Bo (decide ((i28 : Int) < (r2.length : Nat)))) .g0 .g1 .lss) rfl ?_
    refine .nil ?_
    refine .then ?_
    refine .seq ?_
    refine .cond .t0 (fun c41 => ?_) (fun c41 => ?_)
    · obtain ⟨e31, hx38⟩ := get_of c41
      obtain ⟨ct37, hc34, hn35⟩ := loopR_at hx38 hr36
      refine .skip ?_
      refine .then ?_
      refine .seq ?_
      refine .block ?_
      refine .seq ?_
      refine .reg rfl ?_
      refine .ixq Mm.m0 (map_get hx38) fun p42 q43 hq44 => ?_
      refine .opp (P.ixi (i := i28) .g0 rfl .g2 hq44 runUnderlying80 sizeOf36) rfl ?_
      refine .op (V.ldx0 (u := Ag (api_Tx.cs e31)) .t0 hq44 Mm.m0 (map_get hx38) (.agg isAgg36 sizeOf36 rfl rfl)) rfl ?_
      refine .opx (X.alc (cs := (api_Tx.cs ⟨0, 0, 0, 0, ⟨0, 0, 0, 0⟩, ⟨0, ⟨#[]⟩, 0, 0, 0, 0, ⟨#[]⟩⟩, ⟨⟨0, 0, 0, 0⟩, 0⟩, ⟨0, 0, 0, 0⟩, ⟨#[]⟩⟩)) zeroValue36 rfl) rfl fun b45 => ?_
      refine .opg (G.str .t1 .g0 .k0 (.mk (cs' := (api_Tx.cs e31)) sizeOf36 rfl rfl rfl rfl)) rfl fun _ _ => ?_
      refine .nil ?_
      refine .then ?_
      refine .seq ?_
      refine .draw 13 (.on 0 .pu (.on 1 .pu (.on 3 .pu (.on 2 .ld (.on 4 .pu (.on 5 .pu (.on 7 .pu (.on 6 .ld (.on 8 .ld (.on 9 .go (.on 10 .go (.on 11 .pu (.on 12 .pu .nl))))))))))))) follows_mixed (.thn (.inb (.thn (.thn (.inb (.thn (.inb (.thn (.thn (.inb (.thn .body))))))))))) (by kernel_rfl) ?_
      refine .dpu rfl (.n rfl) (P.fa .g0 fa_36_5 rfl) rfl rfl ?_
      refine .dpu rfl (.n rfl) (P.fa .t0 fa_32_2 rfl) rfl rfl ?_
      refine .dpu rfl (.n rfl) (P.mov .g6) rfl rfl ?_
      refine .dld rfl (.n rfl) (V.ld (v := N e31.Inv.Router) .t1 .k0 (.one isAgg3 rfl)) (fun _ h => h) rfl rfl ?_
      refine .dpu rfl (.n rfl) (P.bin .t0 .t0 .eql) rfl rfl ?_
      refine .dpu rfl (.n rfl) (P.mov .t0) rfl rfl ?_
      refine .split .k0 (fun c46 => ?_) (fun c46 => ?_)
      · rw [if_pos c46] at hc34
        refine .dpu rfl (.g rfl rfl .g0 rfl) (P.fa .g1 fa_36_5 rfl) rfl rfl ?_
        refine .dld rfl (.g rfl rfl .g1 rfl) (V.ld (v := Ag (escrow_State.cs a0 z00a)) .g10 .k2 (.agg isAgg64 sizeOf64 rfl rfl)) (fun _ h => h) rfl rfl ?_
        refine .dld rfl (.g rfl rfl .g2 rfl) (V.ld (v := Ag (api_Inv.cs e31.Inv)) .t1 .k0 (.agg isAgg32 sizeOf32 rfl rfl)) (fun _ h => h) rfl rfl ?_
        cases hc34
      · rw [if_neg (ne_true_of_eq_false c46)] at hc34
        refine .dsk rfl (.g rfl rfl .g0 rfl) rfl rfl ?_
        refine .dskl rfl (.g rfl rfl .g0 rfl) (fun _ h => h) rfl rfl ?_
        refine .dskl rfl (.g rfl rfl .g0 rfl) (fun _ h => h) rfl rfl ?_
        refine .dskg rfl (.g rfl rfl .g0 rfl) (.inr fun _ h => h) rfl rfl ?_
        refine .dskg rfl (.g rfl rfl .g0 rfl) (.inr fun _ h => h) rfl rfl ?_
        refine .dsk rfl (.g rfl rfl .g0 rfl) rfl rfl ?_
        refine .dpu rfl (.n rfl) (P.pickF .t0 .k) rfl rfl ?_
        refine .dnil ?_
        refine .then ?_
        refine .condF .t0 ?_
        refine .skip ?_
        refine .inn ?_
        refine .then ?_
        refine .reg rfl ?_
        refine .opp (P.bin .g1 .k (.addc (inc_ok (lt_of_get hx38) hl39))) rfl ?_
        refine .drop .k2 ?_
        refine .opp (P.mov .t0) rfl ?_
        refine .nil ?_
        cases hc34
        exact .rdR () () hn35 (lt_of_get hx38) (.cons Mm.m0 (.cons Mm.m2 (.cons Mm.m3 (.cons Mm.m4 (.cons Mm.m5 (.cons Mm.m6 (.cons Mm.m7 (.cons Mm.m8 .nil)))))))) (.of (.cons .k1 (.cons .k1 (.cons .k1 .nil)))) (.cons Mm.m0 (.cons Mm.m1 (.cons Mm.m2 .nil)))
    · obtain rfl := loopR_end (le_of_not c41) hr36
      have h := dn_on h
      refine .exit ?_
      refine .thx ?_
      refine .thx ?_
      refine .inb ?_
      refine .then ?_
      refine .reg rfl ?_
      refine .opp (P.mov .g5) rfl ?_
      refine .op (V.ld (v := Ag (exposure_Row.cs ⟨3, a0.Vault.a3, ⟨⟨0, 0, 0, 0⟩, ⟨0, 0, 0, 0⟩⟩, 0⟩)) .t4 .k0 (.agg isAgg83 sizeOf83 rfl rfl)) rfl ?_
      refine .opg (G.bsl (cs := (exposure_Row.cs ⟨3, a0.Vault.a3, ⟨⟨0, 0, 0, 0⟩, ⟨0, 0, 0, 0⟩⟩, 0⟩)) .t0 runUnderlying78 sizeOf83 zeroValue83 rfl rfl rfl rfl rfl) rfl fun u47 _ => ?_
      refine .opg (G.app (by_ := 144) .t1 .t0 .k3 (.inr (.inr ⟨_, Mm.m0⟩)) runUnderlying78 runUnderlying78 sizeOf83 typeInfo83 rfl rfl zeroValue83 rfl rfl (Nat.le_of_ble_eq_true rfl) rfl) rfl fun u48 _ => ?_
      refine .conseq .k0 (q := lst 83 18 u48 [(exposure_Row.cs ⟨2, a0.Vault.a2, ⟨⟨0, 0, 0, 0⟩, ⟨0, 0, 0, 0⟩⟩, 0⟩), (exposure_Row.cs ⟨3, a0.Vault.a3, ⟨⟨0, 0, 0, 0⟩, ⟨0, 0, 0, 0⟩⟩, 0⟩)]) (fun _ hh => hh) ?_
      refine .drop .k5 ?_
      refine .opp (P.asg .t0) rfl ?_
      refine .nil ?_
      refine .inn ?_
      refine .then ?_
      refine .reg rfl ?_
      refine .opp (P.mov .g4) rfl ?_
      refine .opp (P.bin (v := N 4) .t0 .k (.addc (by decide))) rfl ?_
      refine .drop .k5 ?_
      refine .opp (P.asg .t0) rfl ?_
      refine .nil ?_
      refine .then ?_
      refine .rd ?_
      refine .seq ?_
      refine .seq ?_
      refine .reg rfl ?_
      refine .opp (P.mov .g0) rfl ?_
      refine .opp (P.bin (v := Bo false) .t0 .k (BinV.lss.boolc (by decide))) rfl ?_
      refine .nil ?_
      refine .then ?_
      refine .condF .t0 ?_
      refine .exit ?_
      refine .thx ?_
      refine .thx ?_
      refine .inb ?_
      refine .then ?_
      refine .seq ?_
      refine .reg rfl ?_
      refine .opp (P.mov .t1) rfl ?_
      refine .opp (P.asg .t0) rfl ?_
      refine .nil ?_
      refine .then ?_
      refine .ret ?_
      cases h
      exact .finw u48 (.r1 rfl (.tmp .g0)) trivial (Ls.of (.cons .k0 .nil)) .nil
attribute [irreducible] exposure_Of
noncomputable def exposure_Widest (a0 : List exposure_Row) (a1 : Int) : Option (Int) :=
  thn (if (decide (((a0.length : Int)) = 0)) = true then true else (!((exposure_known a1)))) fun (y1 : Bool) => if y1 = true then (some (-1)) else (Option.bind (at_ a0 0) fun (x9 : exposure_Row) => grd (okS a0.length (some 1) none none) <| Option.bind (loopR (fun (i18 : Nat) (e21 : exposure_Row) (s19 : exposure_Row) => Option.bind (Option.bind (at_ (A2_api_Wide.list e21.Out) a1) fun (x39 : api_Wide) => Option.bind (at_ (A2_api_Wide.list s19.Out) a1) fun (x43 : api_Wide) => Option.bind (wide_Cmp x39 x43) fun r47 => if (decide (r47 > 0)) = true then (some e21) else (some s19)) fun (y32 : exposure_Row) => some (.nx y32)) 0 ((slc a0 (1 : Int).toNat a0.length)) x9) fun o22 => Lo.on o22 fun (s19 : exposure_Row) => some s19.Router)
set_option maxRecDepth 20000 in
set_option maxHeartbeats 1000000 in
theorem S_exposure_Widest (v00 : Value) (a0 : List exposure_Row) (a1 : Int) (r : Int) (h : exposure_Widest a0 a1 = some r) :
    SpecF Try.prog 41 [v00, N a1] [] [rows 18 v00 (a0.map exposure_Row.cs)] (fun _ : Unit => True) (fun z => N r) (fun z M =>  M) (fun z M =>  M) := by
  refine .of func41 rfl ntmps41 rfl fun w0 D0 G0 => ?_
  unfold exposure_Widest at h
  refine .seq ?_
  refine .reg rfl ?_
  refine .op0 (OpP.toV (P.asg .k)) rfl ?_
  refine .nil ?_
  refine .then ?_
  refine .seq ?_
  obtain ⟨y1, hj3, h⟩ := thn_eq h
  refine .cutx (γ := Unit) (E1 := fun z2 => [(15, Bo y1), (0, v00), (1, N a1)]) (L1 := fun z2 => []) (R1 := fun z2 => [rows 18 v00 (a0.map exposure_Row.cs)]) ?_ (fun z2 => ?_)
  · clear h
    refine .reg rfl ?_
    refine .opp (P.mov .g0) rfl ?_
    refine .op (V.lnr (n := a0.length) .t0 Mm.m0 map_len runUnderlying78) rfl ?_
    refine .opp (P.bin .t0 .k .eql) rfl ?_
    refine .opp (P.mov .t0) rfl ?_
    refine .split .k0 (fun c4 => ?_) (fun c4 => ?_)
    · rw [if_pos c4] at hj3
      refine .gno rfl .g0 rfl rfl ?_
      refine .gno rfl .g0 rfl rfl ?_
      refine .gno rfl .g0 rfl rfl ?_
      refine .opp (P.pickT .t0 .k) rfl ?_
      refine .nil ?_
      subst hj3
      exact .stj () (.cons Mm.m0 (.cons Mm.m1 (.cons Mm.m2 .nil))) (.of .nil) (.cons Mm.m0 .nil)
    · rw [if_neg (ne_true_of_eq_false c4)] at hj3
      refine .gyes rfl .g0 ?_
      refine .opp (P.mov .g2) rfl ?_
      refine .gyes rfl .g1 ?_
      refine .opg (G.call call90 (.cons .t0 .nil) (S_exposure_known a1 _ rfl) .nil .nil (fun _ _ => rfl) (fun _ _ => rfl) rfl) rfl fun _ _ => ?_
      refine .gyes rfl .g1 ?_
      refine .opp (P.not .t0) rfl ?_
      refine .opp (P.pickF .t1 .t0) rfl ?_
      refine .nil ?_
      subst hj3
      exact .stj () (.cons Mm.m0 (.cons Mm.m1 (.cons Mm.m2 .nil))) (.of .nil) (.cons Mm.m0 .nil)
  · clear hj3
    refine .cond .t0 (fun c5 => ?_) (fun c5 => ?_)
    · rw [if_pos c5] at h
      refine .seq ?_
      refine .reg rfl ?_
      refine .opp (P.asg .k) rfl ?_
      refine .nil ?_
      refine .then ?_
      refine .ret ?_
      refine .thr ?_
      cases h
      exact .finw () (.r1 rfl (.tmp .g0)) trivial (Ls.of .nil) .nil
    · rw [if_neg (ne_true_of_eq_false c5)] at h
      refine .skip ?_
      refine .then ?_
      refine .seq ?_
      refine .reg rfl ?_
      refine .opp (P.mov .g0) rfl ?_
      obtain ⟨x9, hx10, h⟩ := bnd_eq h
      obtain ⟨i11, hi12, hx10⟩ := at_eq hx10
      have hi12_ : (0 : Int).toNat = i11 := by rw [hi12]; rfl
      refine .ixq Mm.m0 (map_get hx10) fun p6 q7 hq8 => ?_
      refine .opp (P.ixi (i := i11) .k hi12 .t0 hq8 runUnderlying78 sizeOf83) rfl ?_
      refine .op (V.ldx0 (u := Ag (exposure_Row.cs x9)) .t0 hq8 Mm.m0 (map_get hx10) (.agg isAgg83 sizeOf83 rfl rfl)) rfl ?_
      refine .opx (X.alc (cs := (exposure_Row.cs ⟨0, ⟨⟨0, 0, 0, 0⟩, ⟨0, 0, 0, 0⟩⟩, ⟨⟨0, 0, 0, 0⟩, ⟨0, 0, 0, 0⟩⟩, 0⟩)) zeroValue83 rfl) rfl fun b13 => ?_
      refine .opg (G.str .t1 .g0 .k0 (.mk (cs' := (exposure_Row.cs x9)) sizeOf83 rfl rfl rfl rfl)) rfl fun _ _ => ?_
      refine .nil ?_
      refine .then ?_
      refine .seq ?_
      refine .seq ?_
      refine .reg rfl ?_
      refine .opp (P.mov .t1) rfl ?_
      obtain ⟨hb14, h⟩ := grd_eq h
      refine .capq Mm.m0 fun hc16 => ?_
      refine .opg (G.slr (li := (some 1)) (hj := none) (mk := none) .t0 (.some .k) .none .none Mm.m0 hc16 runUnderlying78 sizeOf83 (by simpa using hb14) rfl) rfl fun u15 hu17 => ?_
      refine .rhead (q := rows 18 u15 (((slc a0 (1 : Int).toNat a0.length)).map exposure_Row.cs)) (fun _ hh => by simpa [slc_map] using hh) ?_
      refine .op (V.lnr (n := ((slc a0 (1 : Int).toNat a0.length)).length) .g0 Mm.m0 map_len runUnderlying78) rfl ?_
      refine .opp (P.mov .k) rfl ?_
      refine .nil ?_
      refine .then ?_
      refine .block ?_
      obtain ⟨o22, ho23, h⟩ := bnd_eq h
      refine .lenq Mm.m0 fun hl29 => ?_
      rw [map_len] at hl29
      refine .loopR (γ := Unit) (fun i18 (s19 : exposure_Row) z20 => [(22, N ((i18 : Int))), (21, N ((((slc a0 (1 : Int).toNat a0.length)).length : Int))), (20, u15), (5, pt b13 0), (1, N a1)]) (fun (s19 : exposure_Row) z20 => [blk b13 83 (exposure_Row.cs s19)]) (fun (s19 : exposure_Row) z20 => [rows 18 u15 (((slc a0 (1 : Int).toNat a0.length)).map exposure_Row.cs), rows 18 v00 (a0.map exposure_Row.cs)]) () ho23 (.cons Mm.m0 (.cons Mm.m1 (.cons Mm.m2 (.cons Mm.m3 (.cons Mm.m4 .nil))))) (.of (.cons .k0 .nil)) (.cons Mm.m0 (.cons Mm.m1 .nil)) (fun i18 s19 z20 hi30 hr26 => ?_)
      refine .seq ?_
      refine .reg rfl ?_
      refine .opp (P.bin (v := Bo (decide ((i18 : Int) < (((slc a0 (1 : Int).toNat a0.length)).length : Nat)))) .g0 .g1 .lss) rfl ?_
      refine .nil ?_
      refine .then ?_
      refine .seq ?_
      refine .cond .t0 (fun c31 => ?_) (fun c31 => ?_)
      · obtain ⟨e21, hx28⟩ := get_of c31
        obtain ⟨ct27, hc24, hn25⟩ := loopR_at hx28 hr26
        refine .skip ?_
        refine .then ?_
        obtain ⟨y32, hj34, hc24⟩ := bnd_eq hc24
        refine .cutx (γ := Unit) (E1 := fun z33 => [(22, N ((i18 : Int))), (21, N ((((slc a0 (1 : Int).toNat a0.length)).length : Int))), (20, u15), (5, pt b13 0), (1, N a1)]) (L1 := fun z33 => [blk b13 83 (exposure_Row.cs y32)]) (R1 := fun z33 => [rows 18 u15 (((slc a0 (1 : Int).toNat a0.length)).map exposure_Row.cs), rows 18 v00 (a0.map exposure_Row.cs)]) ?_ (fun z33 => ?_)
        · clear hc24
          refine .block ?_
          refine .seq ?_
          refine .reg rfl ?_
          refine .ixq Mm.m0 (map_get hx28) fun p35 q36 hq37 => ?_
          refine .opp (P.ixi (i := i18) .g0 rfl .g2 hq37 runUnderlying78 sizeOf83) rfl ?_
          refine .op (V.ldx0 (u := Ag (exposure_Row.cs e21)) .t0 hq37 Mm.m0 (map_get hx28) (.agg isAgg83 sizeOf83 rfl rfl)) rfl ?_
          refine .opx (X.alc (cs := (exposure_Row.cs ⟨0, ⟨⟨0, 0, 0, 0⟩, ⟨0, 0, 0, 0⟩⟩, ⟨⟨0, 0, 0, 0⟩, ⟨0, 0, 0, 0⟩⟩, 0⟩)) zeroValue83 rfl) rfl fun b38 => ?_
          refine .opg (G.str .t1 .g0 .k0 (.mk (cs' := (exposure_Row.cs e21)) sizeOf83 rfl rfl rfl rfl)) rfl fun _ _ => ?_
          refine .nil ?_
          refine .then ?_
          refine .seq ?_
          refine .draw 10 (.on 0 .pu (.on 1 .pu (.on 2 .pu (.on 4 .pu (.on 5 .pu (.on 6 .pu (.on 3 .ld (.on 7 .ld (.on 8 .go (.on 9 .pu .nl)))))))))) follows_mixed (.thn (.inb (.thn (.thn (.inb (.thn .body)))))) (by kernel_rfl) ?_
          refine .dpu rfl (.n rfl) (P.mov .g5) rfl rfl ?_
          refine .dpu rfl (.n rfl) (P.fa .g1 fa_83_2 rfl) rfl rfl ?_
          obtain ⟨x39, hx40, hj34⟩ := bnd_eq hj34
          obtain ⟨i41, hi42, hx40⟩ := at_eq hx40
          have hi42_ : (a1).toNat = i41 := by rw [hi42]; rfl
          refine .dpu rfl (.n rfl) (P.iad (i := i41) (off' := (9 + i41 * 4)) .t1 hi42 .t0 runUnderlying54 sizeOf27 (lt_of_get hx40) rfl) rfl rfl ?_
          refine .dpu rfl (.n rfl) (P.mov .g6) rfl rfl ?_
          refine .dpu rfl (.n rfl) (P.fa .g6 fa_83_2 rfl) rfl rfl ?_
          obtain ⟨x43, hx44, hj34⟩ := bnd_eq hj34
          obtain ⟨i45, hi46, hx44⟩ := at_eq hx44
          have hi46_ : (a1).toNat = i45 := by rw [hi46]; rfl
          refine .dpu rfl (.n rfl) (P.iad (i := i45) (off' := (9 + i45 * 4)) .t1 hi46 .t0 runUnderlying54 sizeOf27 (lt_of_get hx44) rfl) rfl rfl ?_
          refine .dld rfl (.n rfl) (V.ld (v := Ag (api_Wide.cs x39)) .t1 .k0 (by rcases i41 with _ | _ | _ <;> first | (obtain rfl := Option.some.inj hx40; exact LdV.agg isAgg27 sizeOf27 rfl rfl) | (cases hx40; done))) (fun _ h => h) rfl rfl ?_
          refine .dld rfl (.n rfl) (V.ld (v := Ag (api_Wide.cs x43)) .t1 .k1 (by rcases i45 with _ | _ | _ <;> first | (obtain rfl := Option.some.inj hx44; exact LdV.agg isAgg27 sizeOf27 rfl rfl) | (cases hx44; done))) (fun _ h => h) rfl rfl ?_
          obtain ⟨r47, hr48, hj34⟩ := bnd_eq hj34
          refine .dgo rfl (.n rfl) (G.call call91 (.cons .t1 (.cons .t0 .nil)) (S_wide_Cmp x39 x43 r47 hr48) .nil .nil (fun _ _ => rfl) (fun _ _ => rfl) rfl) (.inr fun _ _ _ h => h) fun _ _ => ?_
          refine .dpu rfl (.n rfl) (P.bin .t0 .k .gtr) rfl rfl ?_
          refine .dnil ?_
          refine .then ?_
          refine .cond .t0 (fun c49 => ?_) (fun c49 => ?_)
          · rw [if_pos c49] at hj34
            refine .reg rfl ?_
            refine .op (V.ld (v := Ag (exposure_Row.cs e21)) .t0 .k0 (.agg isAgg83 sizeOf83 rfl rfl)) rfl ?_
            refine .opg (G.str .t0 .g3 .k1 (.mk (cs' := (exposure_Row.cs e21)) sizeOf83 rfl rfl rfl rfl)) rfl fun _ _ => ?_
            refine .nil ?_
            refine .inn ?_
            cases hj34
            exact .stj () (.cons Mm.m0 (.cons Mm.m1 (.cons Mm.m2 (.cons Mm.m3 (.cons Mm.m4 .nil))))) (.of (.cons .k0 .nil)) (.cons Mm.m0 (.cons Mm.m1 .nil))
          · rw [if_neg (ne_true_of_eq_false c49)] at hj34
            refine .skip ?_
            refine .inn ?_
            cases hj34
            exact .stj () (.cons Mm.m1 (.cons Mm.m2 (.cons Mm.m3 (.cons Mm.m4 (.cons Mm.m5 .nil))))) (.of (.cons .k1 .nil)) (.cons Mm.m0 (.cons Mm.m1 .nil))
        · clear hj34
          refine .reg rfl ?_
          refine .opp (P.bin .g0 .k (.addc (inc_ok (lt_of_get hx28) hl29))) rfl ?_
          refine .drop .k1 ?_
          refine .opp (P.mov .t0) rfl ?_
          refine .nil ?_
          cases hc24
          exact .rdR y32 () hn25 (lt_of_get hx28) (.cons Mm.m0 (.cons Mm.m1 (.cons Mm.m2 (.cons Mm.m3 (.cons Mm.m4 .nil))))) (.of (.cons .k0 .nil)) (.cons Mm.m0 (.cons Mm.m1 .nil))
      · obtain rfl := loopR_end (le_of_not c31) hr26
        have h := dn_on h
        refine .exit ?_
        refine .thx ?_
        refine .thx ?_
        refine .inb ?_
        refine .then ?_
        refine .seq ?_
        refine .reg rfl ?_
        refine .opp (P.fa .t3 fa_83_0 rfl) rfl ?_
        refine .op (V.ld (v := N s19.Router) .t0 .k0 (.one isAgg3 rfl)) rfl ?_
        refine .opp (P.asg .t0) rfl ?_
        refine .nil ?_
        refine .then ?_
        refine .ret ?_
        cases h
        exact .finw () (.r1 rfl (.tmp .g0)) trivial (Ls.of .nil) .nil
attribute [irreducible] exposure_Widest
noncomputable def exposure_Share (a0 : exposure_Row) (a1 : Int) : Option (Int) :=
  if (!((exposure_known a1))) = true then (some 0) else (Option.bind (at_ (A2_api_Wide.list a0.Vault) a1) fun (x3 : api_Wide) => Option.bind (at_ (A2_api_Wide.list a0.Out) a1) fun (x7 : api_Wide) => Option.bind (at_ (A2_api_Wide.list a0.Out) a1) fun (x12 : api_Wide) => thn (if (!((wide_Add x3 x7).2)) = true then true else (if (!((wide_Mul x12 100).2)) = true then true else (decide (((wide_Add x3 x7).1 : api_Wide) = (⟨0, 0, 0, 0⟩ : api_Wide))))) fun (y17 : Bool) => if y17 = true then (some 0) else (Option.bind (loopW (fun (s23 : Int × Int) => if (decide (s23.1 < 101)) = true then (Option.bind (Option.bind (if ((wide_Mul ((wide_Add x3 x7).1) (Ui s23.1)).2) = true then (Option.bind (wide_Cmp ((wide_Mul ((wide_Add x3 x7).1) (Ui s23.1)).1) ((wide_Mul x12 100).1)) fun r41 => some (decide (r41 ≤ 0))) else (some false)) fun (y37 : Bool) => if y37 = true then (some s23.1) else (some s23.2)) fun (y33 : Int) => some (.nx ((IntKind.i64.wrap (s23.1 + 1), y33)))) else (some (.br (s23.1, s23.2)))) (0, 0)) fun o25 => Lo.on o25 fun (s23 : Int × Int) => some s23.2))
set_option maxRecDepth 20000 in
set_option maxHeartbeats 1000000 in
theorem S_exposure_Share (a0 : exposure_Row) (a1 : Int) (r : Int) (h : exposure_Share a0 a1 = some r) :
    SpecF Try.prog 42 [Ag (exposure_Row.cs a0), N a1] [] [] (fun _ : Unit => True) (fun z => N r) (fun z M =>  M) (fun z M =>  M) := by
  refine .of func42 rfl ntmps42 rfl fun w0 D0 G0 => ?_
  unfold exposure_Share at h
  refine .seq ?_
  refine .reg rfl ?_
  refine .opx (X.box (cs := (exposure_Row.cs a0)) .t0 rfl) rfl fun b1 => ?_
  refine .op0 (OpP.toV (P.asg .k)) rfl ?_
  refine .nil ?_
  refine .then ?_
  refine .seq ?_
  refine .seq ?_
  refine .reg rfl ?_
  refine .opp (P.mov .g1) rfl ?_
  refine .opg (G.call call90 (.cons .t0 .nil) (S_exposure_known a1 _ rfl) .nil .nil (fun _ _ => rfl) (fun _ _ => rfl) rfl) rfl fun _ _ => ?_
  refine .opp (P.not .t0) rfl ?_
  refine .nil ?_
  refine .then ?_
  refine .cond .t0 (fun c2 => ?_) (fun c2 => ?_)
  · rw [if_pos c2] at h
    refine .seq ?_
    refine .reg rfl ?_
    refine .opp (P.asg .k) rfl ?_
    refine .nil ?_
    refine .then ?_
    refine .ret ?_
    refine .thr ?_
    cases h
    exact .finw () (.r1 rfl (.tmp .g0)) trivial (Ls.of .nil) .nil
  · rw [if_neg (ne_true_of_eq_false c2)] at h
    refine .skip ?_
    refine .then ?_
    refine .seq ?_
    obtain ⟨x3, hx4, h⟩ := bnd_eq h
    obtain ⟨i5, hi6, hx4⟩ := at_eq hx4
    have hi6_ : (a1).toNat = i5 := by rw [hi6]; rfl
    obtain ⟨x7, hx8, h⟩ := bnd_eq h
    obtain ⟨i9, hi10, hx8⟩ := at_eq hx8
    have hi10_ : (a1).toNat = i9 := by rw [hi10]; rfl
    refine .dcut (γ := Nat) (φ := fun _ => True) (E1 := fun x_ => [(6, Bo ((wide_Add x3 x7).2)), (5, pt x_ 0), (2, pt b1 0), (1, N a1)]) (L1 := fun x_ => [blk x_ 27 (api_Wide.cs ((wide_Add x3 x7).1)), blk b1 83 (exposure_Row.cs a0)]) (R1 := fun x_ => []) ?_ (fun b11 _ => ?_)
    · refine .draw 15 (.on 0 .pu (.on 1 .pu (.on 2 .pu (.on 4 .pu (.on 5 .pu (.on 6 .pu (.on 3 .ld (.on 7 .ld (.fk 8 12 (.on 9 .pu (.on 10 .pu (.on 11 .pu (.on 12 .go (.on 13 .go (.on 14 .go .nl)))))) (.on 8 .go (.on 9 .pu (.on 10 .pu (.on 11 .pu (.on 13 .go (.on 14 .go .nl))))))))))))))) follows_mixed (.thn (.thn .body)) (by kernel_rfl) ?_
      refine .dpu rfl (.n rfl) (P.mov .g1) rfl rfl ?_
      refine .dpu rfl (.n rfl) (P.fa .g1 fa_83_1 rfl) rfl rfl ?_
      refine .dpu rfl (.n rfl) (P.iad (i := i5) (off' := (1 + i5 * 4)) .t1 hi6 .t0 runUnderlying54 sizeOf27 (lt_of_get hx4) rfl) rfl rfl ?_
      refine .dpu rfl (.n rfl) (P.mov .g2) rfl rfl ?_
      refine .dpu rfl (.n rfl) (P.fa .g2 fa_83_2 rfl) rfl rfl ?_
      refine .dpu rfl (.n rfl) (P.iad (i := i9) (off' := (9 + i9 * 4)) .t1 hi10 .t0 runUnderlying54 sizeOf27 (lt_of_get hx8) rfl) rfl rfl ?_
      refine .dld rfl (.n rfl) (V.ld (v := Ag (api_Wide.cs x3)) .t1 .k0 (by rcases i5 with _ | _ | _ <;> first | (obtain rfl := Option.some.inj hx4; exact LdV.agg isAgg27 sizeOf27 rfl rfl) | (cases hx4; done))) (fun _ h => h) rfl rfl ?_
      refine .dld rfl (.n rfl) (V.ld (v := Ag (api_Wide.cs x7)) .t1 .k0 (by rcases i9 with _ | _ | _ <;> first | (obtain rfl := Option.some.inj hx8; exact LdV.agg isAgg27 sizeOf27 rfl rfl) | (cases hx8; done))) (fun _ h => h) rfl rfl ?_
      refine .dfk ?_ ?_
      · refine .dgo rfl (.n rfl) (G.call call92 (.cons .t1 (.cons .t0 .nil)) (S_wide_Add x3 x7 _ rfl) .nil .nil (fun _ _ => rfl) (fun _ _ => rfl) rfl) (.inr fun _ _ _ h => h) fun _ _ => ?_
        refine .dpu rfl (.n rfl) (P.mov .t0) rfl rfl ?_
        refine .dpu rfl (.n rfl) (P.ext (v := Ag (api_Wide.cs ((wide_Add x3 x7).1))) .g0 rfl) rfl rfl ?_
        refine .dpu rfl (.n rfl) (P.ext (v := Bo ((wide_Add x3 x7).2)) .t1 rfl) rfl rfl ?_
        refine .dgo rfl (.n rfl) (OpX.g (X.alc (cs := (api_Wide.cs ⟨0, 0, 0, 0⟩)) zeroValue27 rfl) rfl) (.inr fun _ _ _ h => (h.imp (Ls.of (.cons .k1 .nil))).ro Rs.nil) fun b11 _ => ?_
        refine .dgo rfl (.n rfl) (G.str .t2 .g0 .k0 (.mk (cs' := (api_Wide.cs ((wide_Add x3 x7).1))) sizeOf27 rfl rfl rfl rfl)) (.inr fun _ _ _ h => (h.imp (Ls.of (.cons .k1 .nil))).ro Rs.nil) fun _ _ => ?_
        refine .dgo rfl (.n rfl) (OpV.g (OpP.toV (P.asg .t1)) rfl) (.inr fun _ _ _ h => (h.imp (Ls.of (.cons .k1 .nil))).ro Rs.nil) fun _ _ => ?_
        refine .dnil ?_
        exact .dst b11 trivial (.cons Mm.m0 (.cons Mm.m1 (.cons Mm.m2 (.cons Mm.m3 .nil)))) (Ls.of (.cons .k0 (.cons .k0 .nil))) .nil
      · refine .dgo rfl (.n rfl) (OpX.g (X.alc (cs := (api_Wide.cs ⟨0, 0, 0, 0⟩)) zeroValue27 rfl) rfl) (.inr fun _ _ _ h => (h.imp (Ls.of (.cons .k1 .nil))).ro Rs.nil) fun b11 _ => ?_
        refine .dgo rfl (.n rfl) (G.call call92 (.cons .t2 (.cons .t1 .nil)) (S_wide_Add x3 x7 _ rfl) .nil .nil (fun _ _ => rfl) (fun _ _ => rfl) rfl) (.inr fun _ _ _ h => (h.imp (Ls.of (.cons .k1 .nil))).ro Rs.nil) fun _ _ => ?_
        refine .dpu rfl (.n rfl) (P.mov .t0) rfl rfl ?_
        refine .dpu rfl (.n rfl) (P.ext (v := Ag (api_Wide.cs ((wide_Add x3 x7).1))) .g0 rfl) rfl rfl ?_
        refine .dpu rfl (.n rfl) (P.ext (v := Bo ((wide_Add x3 x7).2)) .t1 rfl) rfl rfl ?_
        refine .dgo rfl (.n rfl) (G.str .t1 .g1 .k0 (.mk (cs' := (api_Wide.cs ((wide_Add x3 x7).1))) sizeOf27 rfl rfl rfl rfl)) (.inr fun _ _ _ h => (h.imp (Ls.of (.cons .k1 .nil))).ro Rs.nil) fun _ _ => ?_
        refine .dgo rfl (.n rfl) (OpV.g (OpP.toV (P.asg .t0)) rfl) (.inr fun _ _ _ h => (h.imp (Ls.of (.cons .k1 .nil))).ro Rs.nil) fun _ _ => ?_
        refine .dnil ?_
        exact .dst b11 trivial (.cons Mm.m0 (.cons Mm.m1 (.cons Mm.m2 (.cons Mm.m3 .nil)))) (Ls.of (.cons .k0 (.cons .k0 .nil))) .nil
    · refine .then ?_
      refine .seq ?_
      refine .reg rfl ?_
      refine .opp (P.mov .t3) rfl ?_
      refine .opp (P.fa .t3 fa_83_2 rfl) rfl ?_
      obtain ⟨x12, hx13, h⟩ := bnd_eq h
      obtain ⟨i14, hi15, hx13⟩ := at_eq hx13
      have hi15_ : (a1).toNat = i14 := by rw [hi15]; rfl
      refine .opp (P.iad (i := i14) (off' := (9 + i14 * 4)) .t1 hi15 .t0 runUnderlying54 sizeOf27 (lt_of_get hx13) rfl) rfl ?_
      refine .op (V.ld (v := Ag (api_Wide.cs x12)) .t0 .k1 (by rcases i14 with _ | _ | _ <;> first | (obtain rfl := Option.some.inj hx13; exact LdV.agg isAgg27 sizeOf27 rfl rfl) | (cases hx13; done))) rfl ?_
      refine .opg (G.call call93 (.cons .t0 (.cons .k .nil)) (S_wide_Mul x12 100 _ rfl) .nil .nil (fun _ _ => rfl) (fun _ _ => rfl) rfl) rfl fun _ _ => ?_
      refine .opp (P.mov .t0) rfl ?_
      refine .opp (P.ext (v := Ag (api_Wide.cs ((wide_Mul x12 100).1))) .g0 rfl) rfl ?_
      refine .opp (P.ext (v := Bo ((wide_Mul x12 100).2)) .t1 rfl) rfl ?_
      refine .opx (X.alc (cs := (api_Wide.cs ⟨0, 0, 0, 0⟩)) zeroValue27 rfl) rfl fun b16 => ?_
      refine .opg (G.str .t2 .g0 .k0 (.mk (cs' := (api_Wide.cs ((wide_Mul x12 100).1))) sizeOf27 rfl rfl rfl rfl)) rfl fun _ _ => ?_
      refine .opp (P.asg .t1) rfl ?_
      refine .nil ?_
      refine .then ?_
      refine .seq ?_
      obtain ⟨y17, hj19, h⟩ := thn_eq h
      refine .cutx (γ := Unit) (E1 := fun z18 => [(46, Bo y17), (7, pt b16 0), (5, pt b11 0)]) (L1 := fun z18 => [blk b16 27 (api_Wide.cs ((wide_Mul x12 100).1)), blk b11 27 (api_Wide.cs ((wide_Add x3 x7).1))]) (R1 := fun z18 => []) ?_ (fun z18 => ?_)
      · clear h
        refine .reg rfl ?_
        refine .opp (P.mov .t2) rfl ?_
        refine .opp (P.not .t0) rfl ?_
        refine .opp (P.mov .t0) rfl ?_
        refine .split .k0 (fun c20 => ?_) (fun c20 => ?_)
        · rw [if_pos c20] at hj19
          refine .gno rfl .g0 rfl rfl ?_
          refine .gno rfl .g0 rfl rfl ?_
          refine .opp (P.pickT .t0 .k) rfl ?_
          refine .opp (P.mov .t0) rfl ?_
          refine .gno rfl .g0 rfl rfl ?_
          refine .gno rfl .g0 rfl rfl ?_
          refine .gno rfl .g0 rfl rfl ?_
          refine .opp (P.pickT .t0 .k) rfl ?_
          refine .nil ?_
          subst hj19
          exact .stj () (.cons Mm.m0 (.cons Mm.m2 (.cons Mm.m3 .nil))) (.of (.cons .k0 (.cons .k0 .nil))) .nil
        · rw [if_neg (ne_true_of_eq_false c20)] at hj19
          refine .gyes rfl .g0 ?_
          refine .opp (P.mov .t1) rfl ?_
          refine .gyes rfl .g1 ?_
          refine .opp (P.not .t0) rfl ?_
          refine .opp (P.pickF .t1 .t0) rfl ?_
          refine .opp (P.mov .t0) rfl ?_
          refine .split .k0 (fun c21 => ?_) (fun c21 => ?_)
          · rw [if_pos c21] at hj19
            refine .gno rfl .g0 rfl rfl ?_
            refine .gno rfl .g0 rfl rfl ?_
            refine .gno rfl .g0 rfl rfl ?_
            refine .opp (P.pickT .t0 .k) rfl ?_
            refine .nil ?_
            subst hj19
            exact .stj () (.cons Mm.m0 (.cons Mm.m1 (.cons Mm.m2 .nil))) (.of (.cons .k0 (.cons .k0 .nil))) .nil
          · rw [if_neg (ne_true_of_eq_false c21)] at hj19
            refine .gyes rfl .g0 ?_
            refine .op (V.ld (v := Ag (api_Wide.cs ((wide_Add x3 x7).1))) .g2 .k1 (.agg isAgg27 sizeOf27 rfl rfl)) rfl ?_
            refine .gyes rfl .g1 ?_
            refine .opp (P.bld (v := Ag (api_Wide.cs ⟨0, 0, 0, 0⟩)) .nil (bld_runA zeroValue27 runUnderlying27 sizeOf25 (by kernel_rfl))) rfl ?_
            refine .gyes rfl .g2 ?_
            refine .opp (P.bin .t1 .t0 (eq_27_eql _ _)) rfl ?_
            refine .opp (P.pickF .t1 .t0) rfl ?_
            refine .nil ?_
            subst hj19
            exact .stj () (.cons Mm.m0 (.cons Mm.m1 (.cons Mm.m2 .nil))) (.of (.cons .k0 (.cons .k0 .nil))) .nil
      · clear hj19
        refine .cond .t0 (fun c22 => ?_) (fun c22 => ?_)
        · rw [if_pos c22] at h
          refine .seq ?_
          refine .reg rfl ?_
          refine .opp (P.asg .k) rfl ?_
          refine .nil ?_
          refine .then ?_
          refine .ret ?_
          refine .thr ?_
          cases h
          exact .finw () (.r1 rfl (.tmp .g0)) trivial (Ls.of .nil) .nil
        · rw [if_neg (ne_true_of_eq_false c22)] at h
          refine .skip ?_
          refine .then ?_
          refine .seq ?_
          refine .reg rfl ?_
          refine .opp (P.asg .k) rfl ?_
          refine .nil ?_
          refine .then ?_
          refine .seq ?_
          refine .seq ?_
          refine .reg rfl ?_
          refine .opp (P.mov .k) rfl ?_
          refine .nil ?_
          refine .then ?_
          refine .block ?_
          obtain ⟨o25, ho26, h⟩ := bnd_eq h
          refine .loopW (γ := Unit) (fun (s23 : Int × Int) z24 => [(47, N s23.1), (9, N s23.2), (7, pt b16 0), (5, pt b11 0)]) (fun (s23 : Int × Int) z24 => [blk b16 27 (api_Wide.cs ((wide_Mul x12 100).1)), blk b11 27 (api_Wide.cs ((wide_Add x3 x7).1))]) (fun (s23 : Int × Int) z24 => []) () ho26 (.cons Mm.m0 (.cons Mm.m1 (.cons Mm.m2 (.cons Mm.m3 .nil)))) (.of (.cons .k0 (.cons .k0 .nil))) .nil (fun n31 s23 z24 hr29 => ?_)
          obtain ⟨ct30, hc27, hn28⟩ := loopK_at hr29
          refine .seq ?_
          refine .reg rfl ?_
          refine .opp (P.bin .g0 .k .lss) rfl ?_
          refine .nil ?_
          refine .then ?_
          refine .seq ?_
          refine .cond .t0 (fun c32 => ?_) (fun c32 => ?_)
          · rw [if_pos c32] at hc27
            refine .skip ?_
            refine .then ?_
            obtain ⟨y33, hj35, hc27⟩ := bnd_eq hc27
            refine .cutx (γ := Unit) (E1 := fun z34 => [(9, N y33), (47, N s23.1), (7, pt b16 0), (5, pt b11 0)]) (L1 := fun z34 => [blk b16 27 (api_Wide.cs ((wide_Mul x12 100).1)), blk b11 27 (api_Wide.cs ((wide_Add x3 x7).1))]) (R1 := fun z34 => []) ?_ (fun z34 => ?_)
            · clear hc27
              refine .block ?_
              refine .seq ?_
              refine .reg rfl ?_
              refine .opp (P.mov .g0) rfl ?_
              refine .opp (P.asg .t0) rfl ?_
              refine .nil ?_
              refine .then ?_
              refine .seq ?_
              refine .reg rfl ?_
              refine .op (V.ld (v := Ag (api_Wide.cs ((wide_Add x3 x7).1))) .g4 .k1 (.agg isAgg27 sizeOf27 rfl rfl)) rfl ?_
              refine .opp (P.mov .g1) rfl ?_
              refine .opp (P.cnvU (m := s23.1) .t0 runUnderlying3 runUnderlying25) rfl ?_
              refine .opg (G.call call93 (.cons .t1 (.cons .t0 .nil)) (S_wide_Mul ((wide_Add x3 x7).1) (Ui s23.1) _ rfl) .nil .nil (fun _ _ => rfl) (fun _ _ => rfl) rfl) rfl fun _ _ => ?_
              refine .opp (P.mov .t0) rfl ?_
              refine .opp (P.ext (v := Ag (api_Wide.cs ((wide_Mul ((wide_Add x3 x7).1) (Ui s23.1)).1))) .g0 rfl) rfl ?_
              refine .opp (P.ext (v := Bo ((wide_Mul ((wide_Add x3 x7).1) (Ui s23.1)).2)) .t1 rfl) rfl ?_
              refine .opx (X.alc (cs := (api_Wide.cs ⟨0, 0, 0, 0⟩)) zeroValue27 rfl) rfl fun b36 => ?_
              refine .opg (G.str .t2 .g0 .k0 (.mk (cs' := (api_Wide.cs ((wide_Mul ((wide_Add x3 x7).1) (Ui s23.1)).1))) sizeOf27 rfl rfl rfl rfl)) rfl fun _ _ => ?_
              refine .opp (P.asg .t1) rfl ?_
              refine .nil ?_
              refine .then ?_
              obtain ⟨y37, hj39, hj35⟩ := bnd_eq hj35
              refine .cutx (γ := Unit) (E1 := fun z38 => [(63, Bo y37), (10, N s23.1), (47, N s23.1), (9, N s23.2), (7, pt b16 0), (5, pt b11 0)]) (L1 := fun z38 => [blk b16 27 (api_Wide.cs ((wide_Mul x12 100).1)), blk b11 27 (api_Wide.cs ((wide_Add x3 x7).1))]) (R1 := fun z38 => []) ?_ (fun z38 => ?_)
              · clear hj35
                refine .reg rfl ?_
                refine .opp (P.mov .t0) rfl ?_
                refine .opp (P.mov .t0) rfl ?_
                refine .split .k0 (fun c40 => ?_) (fun c40 => ?_)
                · rw [if_pos c40] at hj39
                  refine .gyes rfl .g0 ?_
                  refine .op (V.ld (v := Ag (api_Wide.cs ((wide_Mul ((wide_Add x3 x7).1) (Ui s23.1)).1))) .t1 .k0 (.agg isAgg27 sizeOf27 rfl rfl)) rfl ?_
                  refine .gyes rfl .g1 ?_
                  refine .op (V.ld (v := Ag (api_Wide.cs ((wide_Mul x12 100).1))) .g5 .k1 (.agg isAgg27 sizeOf27 rfl rfl)) rfl ?_
                  refine .gyes rfl .g2 ?_
                  obtain ⟨r41, hr42, hj39⟩ := bnd_eq hj39
                  refine .opg (G.call call91 (.cons .t1 (.cons .t0 .nil)) (S_wide_Cmp ((wide_Mul ((wide_Add x3 x7).1) (Ui s23.1)).1) ((wide_Mul x12 100).1) r41 hr42) .nil .nil (fun _ _ => rfl) (fun _ _ => rfl) rfl) rfl fun _ _ => ?_
                  refine .gyes rfl .g1 ?_
                  refine .opp (P.bin .t0 .k .leq) rfl ?_
                  refine .opp (P.pickT .t1 .t0) rfl ?_
                  refine .nil ?_
                  cases hj39
                  exact .stj () (.cons Mm.m0 (.cons Mm.m1 (.cons Mm.m2 (.cons Mm.m3 (.cons Mm.m4 (.cons Mm.m5 .nil)))))) (.of (.cons .k1 (.cons .k1 .nil))) .nil
                · rw [if_neg (ne_true_of_eq_false c40)] at hj39
                  refine .gno rfl .g0 rfl rfl ?_
                  refine .gno rfl .g0 rfl rfl ?_
                  refine .gno rfl .g0 rfl rfl ?_
                  refine .gno rfl .g0 rfl rfl ?_
                  refine .opp (P.pickF .t0 .k) rfl ?_
                  refine .nil ?_
                  cases hj39
                  exact .stj () (.cons Mm.m0 (.cons Mm.m2 (.cons Mm.m3 (.cons Mm.m4 (.cons Mm.m5 (.cons Mm.m6 .nil)))))) (.of (.cons .k1 (.cons .k1 .nil))) .nil
              · clear hj39
                refine .cond .t0 (fun c43 => ?_) (fun c43 => ?_)
                · rw [if_pos c43] at hj35
                  refine .reg rfl ?_
                  refine .opp (P.mov .t0) rfl ?_
                  refine .drop .k2 ?_
                  refine .opp (P.asg .t0) rfl ?_
                  refine .nil ?_
                  refine .inn ?_
                  cases hj35
                  exact .stj () (.cons Mm.m0 (.cons Mm.m1 (.cons Mm.m2 (.cons Mm.m3 .nil)))) (.of (.cons .k0 (.cons .k0 .nil))) .nil
                · rw [if_neg (ne_true_of_eq_false c43)] at hj35
                  refine .skip ?_
                  refine .inn ?_
                  cases hj35
                  exact .stj () (.cons Mm.m2 (.cons Mm.m1 (.cons Mm.m3 (.cons Mm.m4 .nil)))) (.of (.cons .k0 (.cons .k0 .nil))) .nil
            · clear hj35
              refine .reg rfl ?_
              refine .opp (P.bin .g1 .k .add) rfl ?_
              refine .drop .k2 ?_
              refine .opp (P.mov .t0) rfl ?_
              refine .nil ?_
              cases hc27
              obtain ⟨m44, hm45, hn28⟩ := hn28
              exact .rdW ((IntKind.i64.wrap (s23.1 + 1), y33)) () hm45 hn28 (.cons Mm.m0 (.cons Mm.m1 (.cons Mm.m2 (.cons Mm.m3 .nil)))) (.of (.cons .k0 (.cons .k0 .nil))) .nil
          · rw [if_neg (ne_true_of_eq_false c32)] at hc27
            refine .exit ?_
            refine .thx ?_
            cases hc27
            refine .told (γ := Unit) h hn28 (fun (s23 : Int × Int) _ => [(47, N s23.1), (9, N s23.2), (7, pt b16 0), (5, pt b11 0)]) (fun (s23 : Int × Int) _ => [blk b16 27 (api_Wide.cs ((wide_Mul x12 100).1)), blk b11 27 (api_Wide.cs ((wide_Add x3 x7).1))]) (fun (s23 : Int × Int) _ => []) () (.cons Mm.m0 (.cons Mm.m1 (.cons Mm.m2 (.cons Mm.m3 .nil)))) (.of (.cons .k0 (.cons .k0 .nil))) .nil (fun s23 _ h' => ?_)
            replace h := h'
            refine .thx ?_
            refine .inb ?_
            refine .then ?_
            refine .seq ?_
            refine .reg rfl ?_
            refine .opp (P.mov .t1) rfl ?_
            refine .opp (P.asg .t0) rfl ?_
            refine .nil ?_
            refine .then ?_
            refine .ret ?_
            cases h
            exact .finw () (.r1 rfl (.tmp .g0)) trivial (Ls.of .nil) .nil
attribute [irreducible] exposure_Share
noncomputable def narrowsref01_Mul (a0 : api_Wide) (a1 : UInt64) : Option (api_Wide × Bool) :=
  Option.bind (loopW (fun (s6 : Int × (List Int)) => if (decide (s6.1 < 16)) = true then (Option.bind (loopW (fun (s16 : Int × Int × (List Int)) => if (decide (s16.1 < 5)) = true then (Option.bind (if (decide (s16.1 < 4)) = true then (Option.bind (at_ ((narrowsref01_Digits (⟨a1, 0, 0, 0⟩ : api_Wide))) s16.1) fun (x33 : Int) => some x33) else (some 0)) fun (y26 : Int) => Option.bind (at_ s16.2.2 (IntKind.i64.wrap (s6.1 + s16.1))) fun (x40 : Int) => Option.bind (at_ ((narrowsref01_Digits a0)) s6.1) fun (x47 : Int) => Option.bind (at_ s16.2.2 (IntKind.i64.wrap (s6.1 + s16.1))) fun (x54 : Int) => some (.nx ((IntKind.i64.wrap (s16.1 + 1), IntKind.i64.wrap (Int.tdiv (IntKind.i64.wrap ((IntKind.i64.wrap (s16.2.1 + x40)) + (IntKind.i64.wrap (x47 * y26)))) 65536), (s16.2.2.set ((IntKind.i64.wrap (s6.1 + s16.1)).toNat) (Int.tmod (IntKind.i64.wrap ((IntKind.i64.wrap (s16.2.1 + x40)) + (IntKind.i64.wrap (x47 * y26)))) 65536 : Int)))))) else (some (.br (s16.1, s16.2.1, s16.2.2)))) (0, 0, s6.2)) fun o18 => Lo.on o18 fun (s16 : Int × Int × (List Int)) => some (.nx ((IntKind.i64.wrap (s6.1 + 1), s16.2.2)))) else (some (.br (s6.1, s6.2)))) ((0, (List.replicate (21 : Int).toNat (0 : Int))))) fun o8 => Lo.on o8 fun (s6 : Int × (List Int)) => Option.bind (narrowsref01_Made s6.2) fun r62 => some (r62.1, r62.2)
set_option maxRecDepth 20000 in
set_option maxHeartbeats 1000000 in
theorem S_narrowsref01_Mul (a0 : api_Wide) (a1 : UInt64) (r : api_Wide × Bool) (h : narrowsref01_Mul a0 a1 = some r) :
    SpecF Try.prog 43 [Ag (api_Wide.cs a0), U a1] [] [] (fun _ : Unit => True) (fun z => Tu [Ag (api_Wide.cs r.1), Bo r.2]) (fun z M =>  M) (fun z M =>  M) := by
  refine .of func43 rfl ntmps43 rfl fun w0 D0 G0 => ?_
  unfold narrowsref01_Mul at h
  refine .seq ?_
  refine .reg rfl ?_
  refine .opx (X.box (cs := (api_Wide.cs a0)) .t0 rfl) rfl fun b1 => ?_
  refine .opx (X.alc (cs := (api_Wide.cs ⟨0, 0, 0, 0⟩)) zeroValue27 rfl) rfl fun b2 => ?_
  refine .op0 (OpP.toV (P.asg .k)) rfl ?_
  refine .nil ?_
  refine .then ?_
  refine .seq ?_
  refine .reg rfl ?_
  refine .op (V.ld (v := Ag (api_Wide.cs a0)) .t1 .k1 (.agg isAgg27 sizeOf27 rfl rfl)) rfl ?_
  refine .opg (G.call call66 (.cons .t0 .nil) (S_narrowsref01_Digits a0 _ rfl) .nil .nil (fun _ _ => rfl) (fun _ _ => rfl) rfl) rfl fun u3 _ => ?_
  refine .opp (P.mov .t2) rfl ?_
  refine .opp (P.bld (v := Ag (api_Wide.cs ⟨a1, 0, 0, 0⟩)) (.cons .t0 .nil) (bld_runA zeroValue27 runUnderlying27 sizeOf25 (by kernel_rfl))) rfl ?_
  refine .opg (G.call call66 (.cons .t0 .nil) (S_narrowsref01_Digits (⟨a1, 0, 0, 0⟩ : api_Wide) _ rfl) .nil .nil (fun _ _ => rfl) (fun _ _ => rfl) rfl) rfl fun u4 _ => ?_
  refine .opp (P.asg .t1) rfl ?_
  refine .opp (P.asg .t1) rfl ?_
  refine .nil ?_
  refine .then ?_
  refine .seq ?_
  refine .reg rfl ?_
  refine .opg (G.mks (by_ := 8) (cs := [N 0]) .k .k runUnderlying128 sizeOf3 typeInfo3 rfl zeroValue3 rfl rfl rfl rfl (by decide) (by decide) rfl) rfl fun u5 _ => ?_
  refine .conseq .k0 (q := lst 3 1 u5 (((List.replicate (21 : Int).toNat (0 : Int))).map (fun x => [N x]))) (fun _ hh => by simpa [List.map_replicate] using hh) ?_
  refine .opp (P.asg .t0) rfl ?_
  refine .nil ?_
  refine .then ?_
  refine .seq ?_
  refine .seq ?_
  refine .reg rfl ?_
  refine .opp (P.asg .k) rfl ?_
  refine .nil ?_
  refine .then ?_
  refine .block ?_
  obtain ⟨o8, ho9, h⟩ := bnd_eq h
  refine .loopW (γ := Unit) (fun (s6 : Int × (List Int)) z7 => [(9, N s6.1), (8, u5), (7, u4), (6, u3), (4, pt b2 0)]) (fun (s6 : Int × (List Int)) z7 => [blk b2 27 (api_Wide.cs ⟨0, 0, 0, 0⟩), lst 3 1 u5 (s6.2.map (fun x => [N x])), lst 3 1 u4 (((narrowsref01_Digits (⟨a1, 0, 0, 0⟩ : api_Wide))).map (fun x => [N x])), lst 3 1 u3 (((narrowsref01_Digits a0)).map (fun x => [N x]))]) (fun (s6 : Int × (List Int)) z7 => []) () ho9 (.cons Mm.m0 (.cons Mm.m1 (.cons Mm.m2 (.cons Mm.m3 (.cons Mm.m4 .nil))))) (.of (.cons .k3 (.cons .k0 (.cons .k0 (.cons .k0 .nil))))) .nil (fun n14 s6 z7 hr12 => ?_)
  obtain ⟨ct13, hc10, hn11⟩ := loopK_at hr12
  refine .seq ?_
  refine .seq ?_
  refine .reg rfl ?_
  refine .opp (P.mov .g0) rfl ?_
  refine .opp (P.bin .t0 .k .lss) rfl ?_
  refine .nil ?_
  refine .then ?_
  refine .cond .t0 (fun c15 => ?_) (fun c15 => ?_)
  · rw [if_pos c15] at hc10
    refine .skip ?_
    refine .then ?_
    refine .seq ?_
    refine .block ?_
    refine .seq ?_
    refine .reg rfl ?_
    refine .opp (P.asg .k) rfl ?_
    refine .nil ?_
    refine .then ?_
    refine .seq ?_
    refine .reg rfl ?_
    refine .opp (P.asg .k) rfl ?_
    refine .nil ?_
    refine .then ?_
    refine .block ?_
    obtain ⟨o18, ho19, hc10⟩ := bnd_eq hc10
    refine .loopW (γ := Unit) (fun (s16 : Int × Int × (List Int)) z17 => [(11, N s16.1), (10, N s16.2.1), (9, N s6.1), (8, u5), (7, u4), (6, u3), (4, pt b2 0)]) (fun (s16 : Int × Int × (List Int)) z17 => [blk b2 27 (api_Wide.cs ⟨0, 0, 0, 0⟩), lst 3 1 u5 (s16.2.2.map (fun x => [N x])), lst 3 1 u4 (((narrowsref01_Digits (⟨a1, 0, 0, 0⟩ : api_Wide))).map (fun x => [N x])), lst 3 1 u3 (((narrowsref01_Digits a0)).map (fun x => [N x]))]) (fun (s16 : Int × Int × (List Int)) z17 => []) () ho19 (.cons Mm.m0 (.cons Mm.m1 (.cons Mm.m2 (.cons Mm.m3 (.cons Mm.m4 (.cons Mm.m5 (.cons Mm.m6 .nil))))))) (.of (.cons .k0 (.cons .k0 (.cons .k0 (.cons .k0 .nil))))) .nil (fun n24 s16 z17 hr22 => ?_)
    obtain ⟨ct23, hc20, hn21⟩ := loopK_at hr22
    refine .seq ?_
    refine .seq ?_
    refine .reg rfl ?_
    refine .opp (P.mov .g0) rfl ?_
    refine .opp (P.bin .t0 .k .lss) rfl ?_
    refine .nil ?_
    refine .then ?_
    refine .cond .t0 (fun c25 => ?_) (fun c25 => ?_)
    · rw [if_pos c25] at hc20
      refine .skip ?_
      refine .then ?_
      refine .seq ?_
      refine .block ?_
      refine .seq ?_
      refine .reg rfl ?_
      refine .opp (P.asg .k) rfl ?_
      refine .nil ?_
      refine .then ?_
      obtain ⟨y26, hj28, hc20⟩ := bnd_eq hc20
      refine .cutx (γ := Unit) (E1 := fun z27 => [(12, N y26), (11, N s16.1), (10, N s16.2.1), (9, N s6.1), (8, u5), (7, u4), (6, u3), (4, pt b2 0)]) (L1 := fun z27 => [blk b2 27 (api_Wide.cs ⟨0, 0, 0, 0⟩), lst 3 1 u5 (s16.2.2.map (fun x => [N x])), lst 3 1 u4 (((narrowsref01_Digits (⟨a1, 0, 0, 0⟩ : api_Wide))).map (fun x => [N x])), lst 3 1 u3 (((narrowsref01_Digits a0)).map (fun x => [N x]))]) (R1 := fun z27 => []) ?_ (fun z27 => ?_)
      · clear hc20
        refine .seq ?_
        refine .reg rfl ?_
        refine .opp (P.mov .g1) rfl ?_
        refine .opp (P.bin .t0 .k .lss) rfl ?_
        refine .nil ?_
        refine .then ?_
        refine .cond .t0 (fun c29 => ?_) (fun c29 => ?_)
        · rw [if_pos c29] at hj28
          refine .reg rfl ?_
          refine .opp (P.mov .g5) rfl ?_
          refine .opp (P.mov .g2) rfl ?_
          obtain ⟨x33, hx34, hj28⟩ := bnd_eq hj28
          obtain ⟨i35, hi36, hx34⟩ := at_eq hx34
          have hi36_ : (s16.1).toNat = i35 := by rw [hi36]; rfl
          refine .ixql .k2 (map_get hx34) fun p30 q31 hq32 => ?_
          refine .opp (P.ixi (i := i35) .t0 hi36 .t0 hq32 runUnderlying128 sizeOf3) rfl ?_
          refine .op (V.ldxl0 (u := N x33) .t0 hq32 .k2 (map_get hx34) (.one isAgg3 rfl)) rfl ?_
          refine .drop .k1 ?_
          refine .opp (P.asg .t0) rfl ?_
          refine .nil ?_
          cases hj28
          exact .stj () (.cons Mm.m0 (.cons Mm.m1 (.cons Mm.m2 (.cons Mm.m3 (.cons Mm.m4 (.cons Mm.m5 (.cons Mm.m6 (.cons Mm.m7 .nil)))))))) (.of (.cons .k0 (.cons .k0 (.cons .k0 (.cons .k0 .nil))))) .nil
        · rw [if_neg (ne_true_of_eq_false c29)] at hj28
          refine .skip ?_
          cases hj28
          exact .stj () (.cons Mm.m0 (.cons Mm.m1 (.cons Mm.m2 (.cons Mm.m3 (.cons Mm.m4 (.cons Mm.m5 (.cons Mm.m6 (.cons Mm.m7 .nil)))))))) (.of (.cons .k0 (.cons .k0 (.cons .k0 (.cons .k0 .nil))))) .nil
      · clear hj28
        refine .seq ?_
        refine .draw 16 (.on 0 .pu (.on 1 .pu (.on 2 .pu (.on 3 .pu (.on 4 .pu (.on 5 .pu (.on 8 .pu (.on 9 .pu (.on 10 .pu (.on 12 .pu (.on 6 .ld (.on 7 .pu (.on 11 .ld (.on 13 .pu (.on 14 .pu (.on 15 .go .nl)))))))))))))))) follows_mixed (.thn (.inb (.thn (.thn (.inb (.inb (.thn (.thn (.inb (.thn .body)))))))))) (by kernel_rfl) ?_
        refine .dpu rfl (.n rfl) (P.mov .g2) rfl rfl ?_
        refine .dpu rfl (.n rfl) (P.mov .g5) rfl rfl ?_
        refine .dpu rfl (.n rfl) (P.mov .g5) rfl rfl ?_
        refine .dpu rfl (.n rfl) (P.mov .g4) rfl rfl ?_
        refine .dpu rfl (.n rfl) (P.bin .t1 .t0 .add) rfl rfl ?_
        obtain ⟨x40, hx41, hc20⟩ := bnd_eq hc20
        obtain ⟨i42, hi43, hx41⟩ := at_eq hx41
        have hi43_ : (IntKind.i64.wrap (s6.1 + s16.1)).toNat = i42 := by rw [hi43]; rfl
        refine .ixql .k1 (map_get hx41) fun p37 q38 hq39 => ?_
        refine .dpu rfl (.n rfl) (P.ixi (i := i42) .t0 hi43 .t0 hq39 runUnderlying128 sizeOf3) rfl rfl ?_
        refine .dpu rfl (.n rfl) (P.mov .g8) rfl rfl ?_
        refine .dpu rfl (.n rfl) (P.mov .g6) rfl rfl ?_
        obtain ⟨x47, hx48, hc20⟩ := bnd_eq hc20
        obtain ⟨i49, hi50, hx48⟩ := at_eq hx48
        have hi50_ : (s6.1).toNat = i49 := by rw [hi50]; rfl
        refine .ixql .k3 (map_get hx48) fun p44 q45 hq46 => ?_
        refine .dpu rfl (.n rfl) (P.ixi (i := i49) .t0 hi50 .t0 hq46 runUnderlying128 sizeOf3) rfl rfl ?_
        refine .dpu rfl (.n rfl) (P.mov .t3) rfl rfl ?_
        refine .dld rfl (.n rfl) (V.ldxl0 (u := N x40) .t2 hq39 .k1 (map_get hx41) (.one isAgg3 rfl)) (fun _ h => h) rfl rfl ?_
        refine .dpu rfl (.n rfl) (P.bin .t3 .t0 .add) rfl rfl ?_
        refine .dld rfl (.n rfl) (V.ldxl0 (u := N x47) .t2 hq46 .k3 (map_get hx48) (.one isAgg3 rfl)) (fun _ h => h) rfl rfl ?_
        refine .dpu rfl (.n rfl) (P.bin .t0 .t1 .mul) rfl rfl ?_
        refine .dpu rfl (.n rfl) (P.bin .t1 .t0 .add) rfl rfl ?_
        refine .drop .k2 ?_
        refine .dgo rfl (.n rfl) (OpV.g (OpP.toV (P.asg .t0)) rfl) (.inr fun _ _ _ h => h) fun _ _ => ?_
        refine .dnil ?_
        refine .then ?_
        refine .seq ?_
        refine .reg rfl ?_
        refine .opp (P.mov .g3) rfl ?_
        refine .opp (P.mov .g3) rfl ?_
        refine .opp (P.mov .g3) rfl ?_
        refine .opp (P.bin .t1 .t0 .add) rfl ?_
        refine .opp (P.mov .g2) rfl ?_
        refine .opp (P.bin .t0 .k (.rem (by decide))) rfl ?_
        obtain ⟨x54, hx55, hc20⟩ := bnd_eq hc20
        obtain ⟨i56, hi57, hx55⟩ := at_eq hx55
        have hi57_ : (IntKind.i64.wrap (s6.1 + s16.1)).toNat = i56 := by rw [hi57]; rfl
        refine .ixql .k1 (map_get hx55) fun p51 q52 hq53 => ?_
        refine .opp (P.ixi (i := i56) .t1 hi57 .t1 hq53 runUnderlying128 sizeOf3) rfl ?_
        refine .opg (G.stx (off := q52) (k := 0) (cs' := [N (Int.tmod (IntKind.i64.wrap ((IntKind.i64.wrap (s16.2.1 + x40)) + (IntKind.i64.wrap (x47 * y26)))) 65536)]) .t1 .t0 hq53 .k1 (map_get hx55) (.mk sizeOf3 rfl rfl rfl rfl)) rfl fun _ _ => ?_
        refine .conseq .k0 (q := lst 3 1 u5 (((s16.2.2.set ((IntKind.i64.wrap (s6.1 + s16.1)).toNat) (Int.tmod (IntKind.i64.wrap ((IntKind.i64.wrap (s16.2.1 + x40)) + (IntKind.i64.wrap (x47 * y26)))) 65536 : Int))).map (fun x => [N x]))) (fun _ h_ => by rw [hi57_]; simpa [List.map_set] using h_) ?_
        refine .nil ?_
        refine .then ?_
        refine .reg rfl ?_
        refine .opp (P.mov .g0) rfl ?_
        refine .opp (P.bin .t0 .k (.quo (by decide))) rfl ?_
        refine .drop .k1 ?_
        refine .opp (P.asg .t0) rfl ?_
        refine .nil ?_
        refine .inn ?_
        refine .then ?_
        refine .reg rfl ?_
        refine .opp (P.mov .g1) rfl ?_
        refine .opp (P.bin .t0 .k .add) rfl ?_
        refine .drop .k2 ?_
        refine .opp (P.asg .t0) rfl ?_
        refine .nil ?_
        cases hc20
        obtain ⟨m58, hm59, hn21⟩ := hn21
        exact .rdW ((IntKind.i64.wrap (s16.1 + 1), IntKind.i64.wrap (Int.tdiv (IntKind.i64.wrap ((IntKind.i64.wrap (s16.2.1 + x40)) + (IntKind.i64.wrap (x47 * y26)))) 65536), (s16.2.2.set ((IntKind.i64.wrap (s6.1 + s16.1)).toNat) (Int.tmod (IntKind.i64.wrap ((IntKind.i64.wrap (s16.2.1 + x40)) + (IntKind.i64.wrap (x47 * y26)))) 65536 : Int)))) () hm59 hn21 (.cons Mm.m0 (.cons Mm.m1 (.cons Mm.m2 (.cons Mm.m3 (.cons Mm.m4 (.cons Mm.m5 (.cons Mm.m6 .nil))))))) (.of (.cons .k1 (.cons .k0 (.cons .k0 (.cons .k0 .nil))))) .nil
    · rw [if_neg (ne_true_of_eq_false c25)] at hc20
      refine .exit ?_
      refine .thx ?_
      cases hc20
      refine .told (γ := Unit) hc10 hn21 (fun (s16 : Int × Int × (List Int)) _ => [(11, N s16.1), (10, N s16.2.1), (9, N s6.1), (8, u5), (7, u4), (6, u3), (4, pt b2 0)]) (fun (s16 : Int × Int × (List Int)) _ => [blk b2 27 (api_Wide.cs ⟨0, 0, 0, 0⟩), lst 3 1 u5 (s16.2.2.map (fun x => [N x])), lst 3 1 u4 (((narrowsref01_Digits (⟨a1, 0, 0, 0⟩ : api_Wide))).map (fun x => [N x])), lst 3 1 u3 (((narrowsref01_Digits a0)).map (fun x => [N x]))]) (fun (s16 : Int × Int × (List Int)) _ => []) () (.cons Mm.m0 (.cons Mm.m1 (.cons Mm.m2 (.cons Mm.m3 (.cons Mm.m4 (.cons Mm.m5 (.cons Mm.m6 .nil))))))) (.of (.cons .k0 (.cons .k0 (.cons .k0 (.cons .k0 .nil))))) .nil (fun s16 _ hc10' => ?_)
      replace hc10 := hc10'
      refine .thx ?_
      refine .inb ?_
      refine .inn ?_
      refine .then ?_
      refine .reg rfl ?_
      refine .opp (P.mov .g2) rfl ?_
      refine .opp (P.bin .t0 .k .add) rfl ?_
      refine .drop .k3 ?_
      refine .opp (P.asg .t0) rfl ?_
      refine .nil ?_
      cases hc10
      obtain ⟨m60, hm61, hn11⟩ := hn11
      exact .rdW ((IntKind.i64.wrap (s6.1 + 1), s16.2.2)) () hm61 hn11 (.cons Mm.m0 (.cons Mm.m3 (.cons Mm.m4 (.cons Mm.m5 (.cons Mm.m6 .nil))))) (.of (.cons .k0 (.cons .k0 (.cons .k0 (.cons .k0 .nil))))) .nil
  · rw [if_neg (ne_true_of_eq_false c15)] at hc10
    refine .exit ?_
    refine .thx ?_
    cases hc10
    refine .told (γ := Unit) h hn11 (fun (s6 : Int × (List Int)) _ => [(9, N s6.1), (8, u5), (7, u4), (6, u3), (4, pt b2 0)]) (fun (s6 : Int × (List Int)) _ => [blk b2 27 (api_Wide.cs ⟨0, 0, 0, 0⟩), lst 3 1 u5 (s6.2.map (fun x => [N x])), lst 3 1 u4 (((narrowsref01_Digits (⟨a1, 0, 0, 0⟩ : api_Wide))).map (fun x => [N x])), lst 3 1 u3 (((narrowsref01_Digits a0)).map (fun x => [N x]))]) (fun (s6 : Int × (List Int)) _ => []) () (.cons Mm.m0 (.cons Mm.m1 (.cons Mm.m2 (.cons Mm.m3 (.cons Mm.m4 .nil))))) (.of (.cons .k0 (.cons .k0 (.cons .k0 (.cons .k0 .nil))))) .nil (fun s6 _ h' => ?_)
    replace h := h'
    refine .thx ?_
    refine .inb ?_
    refine .then ?_
    refine .seq ?_
    refine .reg rfl ?_
    refine .opp (P.mov .t1) rfl ?_
    refine .frz .k1 ?_
    obtain ⟨r62, hr63, h⟩ := bnd_eq h
    refine .opg (G.call call67 (.cons .t0 .nil) (S_narrowsref01_Made u5 s6.2 r62 hr63) .nil (.cons Mm.m0 .nil) (fun _ _ => rfl) (fun _ _ => rfl) rfl) rfl fun _ _ => ?_
    refine .opp (P.ext (v := Ag (api_Wide.cs r62.1)) .g0 rfl) rfl ?_
    refine .opp (P.ext (v := Bo r62.2) .t1 rfl) rfl ?_
    refine .opg (G.str .t1 .g4 .k0 (.mk (cs' := (api_Wide.cs r62.1)) sizeOf27 rfl rfl rfl rfl)) rfl fun _ _ => ?_
    refine .opp (P.asg .t0) rfl ?_
    refine .nil ?_
    refine .then ?_
    refine .ret ?_
    cases h
    exact .finw () (.r2 rfl (.cell .g4 .k0 (.agg isAgg27 sizeOf27 rfl rfl)) (.tmp .g0)) trivial (Ls.of .nil) .nil
attribute [irreducible] narrowsref01_Mul
noncomputable def narrowslaw38_alive  : Option (Bool) :=
  Option.bind (exposure_Of ((escrow_Genesis 0 5)) ([] : List api_Event)) fun r2 => Option.bind (if (decide (((r2.length : Int)) = 2)) = true then (Option.bind (at_ r2 0) fun (x12 : exposure_Row) => if (decide (x12.Router = 2)) = true then (Option.bind (at_ r2 1) fun (x20 : exposure_Row) => if (decide (x20.Router = 3)) = true then (Option.bind (at_ r2 0) fun (x28 : exposure_Row) => if (decide (x28.Open = 0)) = true then (Option.bind (exposure_Widest r2 0) fun r33 => some (decide (r33 = 2))) else (some false)) else (some false)) else (some false)) else (some false)) fun (y5 : Bool) => some y5
set_option maxRecDepth 20000 in
set_option maxHeartbeats 1000000 in
theorem S_narrowslaw38_alive  (r : Bool) (h : narrowslaw38_alive  = some r) :
    SpecF Try.prog 35 [] [] [] (fun _ : Unit => True) (fun z => Bo r) (fun z M =>  M) (fun z M =>  M) := by
  refine .of func35 rfl ntmps35 rfl fun w0 D0 G0 => ?_
  unfold narrowslaw38_alive at h
  refine .seq ?_
  refine .reg rfl ?_
  refine .op0 (OpP.toV (P.asg .k)) rfl ?_
  refine .nil ?_
  refine .then ?_
  refine .seq ?_
  refine .reg rfl ?_
  refine .opg (G.call call54 (.cons .k (.cons .k .nil)) (S_escrow_Genesis 0 5 _ rfl) .nil .nil (fun _ _ => rfl) (fun _ _ => rfl) rfl) rfl fun u1 _ => ?_
  refine .rnil0 27 ?_
  obtain ⟨r2, hr3, h⟩ := bnd_eq h
  refine .opg (G.call call36 (.cons .t0 (.cons .k .nil)) (S_exposure_Of ((escrow_Genesis 0 5)) u1 nilSl ([] : List api_Event) r2 hr3) .nil (.cons Mm.m1 (.cons Mm.m0 .nil)) (fun _ _ => rfl) (fun _ _ => rfl) rfl) rfl fun u4 _ => ?_
  refine .opp (P.asg .t0) rfl ?_
  refine .nil ?_
  refine .then ?_
  obtain ⟨y5, hj7, h⟩ := bnd_eq h
  refine .cutx (γ := Unit) (E1 := fun z6 => [(0, Bo y5)]) (L1 := fun z6 => []) (R1 := fun z6 => []) ?_ (fun z6 => ?_)
  · clear h
    refine .reg rfl ?_
    refine .opp (P.mov .g0) rfl ?_
    refine .op (V.lnl (n := r2.length) .t0 .k0 map_len runUnderlying78) rfl ?_
    refine .opp (P.bin .t0 .k .eql) rfl ?_
    refine .opp (P.mov .t0) rfl ?_
    refine .split .k0 (fun c8 => ?_) (fun c8 => ?_)
    · rw [if_pos c8] at hj7
      refine .gyes rfl .g0 ?_
      refine .opp (P.mov .g1) rfl ?_
      refine .gyes rfl .g1 ?_
      obtain ⟨x12, hx13, hj7⟩ := bnd_eq hj7
      obtain ⟨i14, hi15, hx13⟩ := at_eq hx13
      have hi15_ : (0 : Int).toNat = i14 := by rw [hi15]; rfl
      refine .ixql .k0 (map_get hx13) fun p9 q10 hq11 => ?_
      refine .opp (P.ixi (i := i14) .k hi15 .t0 hq11 runUnderlying78 sizeOf83) rfl ?_
      refine .gyes rfl .g1 ?_
      refine .opp (P.fa (off' := q10) .t0 fa_83_0 rfl) rfl ?_
      refine .gyes rfl .g1 ?_
      refine .op (V.ldxl0 (u := N x12.Router) .t0 hq11 .k0 (map_get hx13) (.one isAgg3 rfl)) rfl ?_
      refine .gyes rfl .g1 ?_
      refine .opp (P.bin .t0 .k .eql) rfl ?_
      refine .opp (P.pickT .t1 .t0) rfl ?_
      refine .opp (P.mov .t0) rfl ?_
      refine .split .k0 (fun c16 => ?_) (fun c16 => ?_)
      · rw [if_pos c16] at hj7
        refine .gyes rfl .g0 ?_
        refine .opp (P.mov .g1) rfl ?_
        refine .gyes rfl .g1 ?_
        obtain ⟨x20, hx21, hj7⟩ := bnd_eq hj7
        obtain ⟨i22, hi23, hx21⟩ := at_eq hx21
        have hi23_ : (1 : Int).toNat = i22 := by rw [hi23]; rfl
        refine .ixql .k0 (map_get hx21) fun p17 q18 hq19 => ?_
        refine .opp (P.ixi (i := i22) .k hi23 .t0 hq19 runUnderlying78 sizeOf83) rfl ?_
        refine .gyes rfl .g1 ?_
        refine .opp (P.fa (off' := q18) .t0 fa_83_0 rfl) rfl ?_
        refine .gyes rfl .g1 ?_
        refine .op (V.ldxl0 (u := N x20.Router) .t0 hq19 .k0 (map_get hx21) (.one isAgg3 rfl)) rfl ?_
        refine .gyes rfl .g1 ?_
        refine .opp (P.bin .t0 .k .eql) rfl ?_
        refine .opp (P.pickT .t1 .t0) rfl ?_
        refine .opp (P.mov .t0) rfl ?_
        refine .split .k0 (fun c24 => ?_) (fun c24 => ?_)
        · rw [if_pos c24] at hj7
          refine .gyes rfl .g0 ?_
          refine .opp (P.mov .g1) rfl ?_
          refine .gyes rfl .g1 ?_
          obtain ⟨x28, hx29, hj7⟩ := bnd_eq hj7
          obtain ⟨i30, hi31, hx29⟩ := at_eq hx29
          have hi31_ : (0 : Int).toNat = i30 := by rw [hi31]; rfl
          refine .ixql .k0 (map_get hx29) fun p25 q26 hq27 => ?_
          refine .opp (P.ixi (i := i30) .k hi31 .t0 hq27 runUnderlying78 sizeOf83) rfl ?_
          refine .gyes rfl .g1 ?_
          refine .opp (P.fa (off' := q26 + 17) .t0 fa_83_3 rfl) rfl ?_
          refine .gyes rfl .g1 ?_
          refine .op (V.ldxl (u := N x28.Open) (off := q26) (k := 17) .t0 hq27 .k0 (map_get hx29) (.one isAgg3 rfl)) rfl ?_
          refine .gyes rfl .g1 ?_
          refine .opp (P.bin .t0 .k .eql) rfl ?_
          refine .opp (P.pickT .t1 .t0) rfl ?_
          refine .opp (P.mov .t0) rfl ?_
          refine .split .k0 (fun c32 => ?_) (fun c32 => ?_)
          · rw [if_pos c32] at hj7
            refine .gyes rfl .g0 ?_
            refine .opp (P.mov .t1) rfl ?_
            refine .gyes rfl .g1 ?_
            refine .frz .k0 ?_
            obtain ⟨r33, hr34, hj7⟩ := bnd_eq hj7
            refine .opg (G.call call41 (.cons .t0 (.cons .k .nil)) (S_exposure_Widest u4 r2 0 r33 hr34) .nil (.cons Mm.m0 .nil) (fun _ _ => rfl) (fun _ _ => rfl) rfl) rfl fun _ _ => ?_
            refine .gyes rfl .g1 ?_
            refine .opp (P.bin .t0 .k .eql) rfl ?_
            refine .opp (P.pickT .t1 .t0) rfl ?_
            refine .opp (P.asg .t0) rfl ?_
            refine .nil ?_
            cases hj7
            exact .stj () (.cons Mm.m0 .nil) (.of .nil) .nil
          · rw [if_neg (ne_true_of_eq_false c32)] at hj7
            refine .gno rfl .g0 rfl rfl ?_
            refine .gno rfl .g0 rfl rfl ?_
            refine .gno rfl .g0 rfl rfl ?_
            refine .opp (P.pickF .t0 .k) rfl ?_
            refine .opp (P.asg .t0) rfl ?_
            refine .nil ?_
            cases hj7
            exact .stj () (.cons Mm.m0 .nil) (.of .nil) .nil
        · rw [if_neg (ne_true_of_eq_false c24)] at hj7
          refine .gno rfl .g0 rfl rfl ?_
          refine .gno rfl .g0 rfl rfl ?_
          refine .gno rfl .g0 rfl rfl ?_
          refine .gno rfl .g0 rfl rfl ?_
          refine .gno rfl .g0 rfl rfl ?_
          refine .opp (P.pickF .t0 .k) rfl ?_
          refine .opp (P.mov .t0) rfl ?_
          refine .gno rfl .g0 rfl rfl ?_
          refine .gno rfl .g0 rfl rfl ?_
          refine .gno rfl .g0 rfl rfl ?_
          refine .opp (P.pickF .t0 .k) rfl ?_
          refine .opp (P.asg .t0) rfl ?_
          refine .nil ?_
          cases hj7
          exact .stj () (.cons Mm.m0 .nil) (.of .nil) .nil
      · rw [if_neg (ne_true_of_eq_false c16)] at hj7
        refine .gno rfl .g0 rfl rfl ?_
        refine .gno rfl .g0 rfl rfl ?_
        refine .gno rfl .g0 rfl rfl ?_
        refine .gno rfl .g0 rfl rfl ?_
        refine .gno rfl .g0 rfl rfl ?_
        refine .opp (P.pickF .t0 .k) rfl ?_
        refine .opp (P.mov .t0) rfl ?_
        refine .gno rfl .g0 rfl rfl ?_
        refine .gno rfl .g0 rfl rfl ?_
        refine .gno rfl .g0 rfl rfl ?_
        refine .gno rfl .g0 rfl rfl ?_
        refine .gno rfl .g0 rfl rfl ?_
        refine .opp (P.pickF .t0 .k) rfl ?_
        refine .opp (P.mov .t0) rfl ?_
        refine .gno rfl .g0 rfl rfl ?_
        refine .gno rfl .g0 rfl rfl ?_
        refine .gno rfl .g0 rfl rfl ?_
        refine .opp (P.pickF .t0 .k) rfl ?_
        refine .opp (P.asg .t0) rfl ?_
        refine .nil ?_
        cases hj7
        exact .stj () (.cons Mm.m0 .nil) (.of .nil) .nil
    · rw [if_neg (ne_true_of_eq_false c8)] at hj7
      refine .gno rfl .g0 rfl rfl ?_
      refine .gno rfl .g0 rfl rfl ?_
      refine .gno rfl .g0 rfl rfl ?_
      refine .gno rfl .g0 rfl rfl ?_
      refine .gno rfl .g0 rfl rfl ?_
      refine .opp (P.pickF .t0 .k) rfl ?_
      refine .opp (P.mov .t0) rfl ?_
      refine .gno rfl .g0 rfl rfl ?_
      refine .gno rfl .g0 rfl rfl ?_
      refine .gno rfl .g0 rfl rfl ?_
      refine .gno rfl .g0 rfl rfl ?_
      refine .gno rfl .g0 rfl rfl ?_
      refine .opp (P.pickF .t0 .k) rfl ?_
      refine .opp (P.mov .t0) rfl ?_
      refine .gno rfl .g0 rfl rfl ?_
      refine .gno rfl .g0 rfl rfl ?_
      refine .gno rfl .g0 rfl rfl ?_
      refine .gno rfl .g0 rfl rfl ?_
      refine .gno rfl .g0 rfl rfl ?_
      refine .opp (P.pickF .t0 .k) rfl ?_
      refine .opp (P.mov .t0) rfl ?_
      refine .gno rfl .g0 rfl rfl ?_
      refine .gno rfl .g0 rfl rfl ?_
      refine .gno rfl .g0 rfl rfl ?_
      refine .opp (P.pickF .t0 .k) rfl ?_
      refine .opp (P.asg .t0) rfl ?_
      refine .nil ?_
      cases hj7
      exact .stj () (.cons Mm.m0 .nil) (.of .nil) .nil
  · clear hj7
    refine .ret ?_
    cases h
    exact .finw () (.r1 rfl (.tmp .g0)) trivial (Ls.of .nil) .nil
attribute [irreducible] narrowslaw38_alive
noncomputable def narrowslaw38_ExposureShares (a0 : List exposure_Row) (a1 : Int) (a2 : exposure_Row) : Option (Bool) :=
  Option.bind (narrowslaw38_alive) fun r2 => if (!r2) = true then (some false) else (Option.bind (thn (if (decide (a1 = 0)) = true then true else (decide (a1 = 1))) fun (y8 : Bool) => if y8 = true then (Option.bind (loopW (fun (s13 : Int × Int) => if (decide (s13.1 < ((a0.length : Int)))) = true then (Option.bind (Option.bind (loopW (fun (s26 : Int × Bool) => if (decide (s26.1 < ((a0.length : Int)))) = true then (Option.bind (Option.bind (at_ a0 s26.1) fun (x42 : exposure_Row) => Option.bind (at_ (A2_api_Wide.list x42.Out) a1) fun (x46 : api_Wide) => Option.bind (at_ a0 s13.1) fun (x53 : exposure_Row) => Option.bind (at_ (A2_api_Wide.list x53.Out) a1) fun (x57 : api_Wide) => Option.bind (narrowsref01_Cmp x46 x57) fun r61 => if s26.2 = true then (if (decide (r61 < 0)) = true then (some true) else (if (decide (r61 = 0)) = true then (some (decide (s26.1 ≥ s13.1))) else (some false))) else (some false)) fun (y36 : Bool) => some (.nx ((IntKind.i64.wrap (s26.1 + 1), y36)))) else (some (.br (s26.1, s26.2)))) (0, true)) fun o28 => Lo.on o28 fun (s26 : Int × Bool) => if s26.2 = true then (Option.bind (at_ a0 s13.1) fun (x72 : exposure_Row) => some x72.Router) else (some s13.2)) fun (y23 : Int) => some (.nx ((IntKind.i64.wrap (s13.1 + 1), y23)))) else (some (.br (s13.1, s13.2)))) ((0, (-1)))) fun o15 => Lo.on o15 fun (s13 : Int × Int) => some s13.2) else (some (-1))) fun (y5 : Int) => Option.bind (exposure_Widest a0 a1) fun r78 => if (decide (r78 ≠ y5)) = true then (some false) else (Option.bind (exposure_Share a2 a1) fun r81 => thn (if (decide (a1 ≠ 0)) = true then (decide (a1 ≠ 1)) else false) fun (y83 : Bool) => if y83 = true then (some (decide (r81 = 0))) else (Option.bind (at_ (A2_api_Wide.list a2.Vault) a1) fun (x88 : api_Wide) => Option.bind (at_ (A2_api_Wide.list a2.Out) a1) fun (x92 : api_Wide) => Option.bind (narrowsref01_Add x88 x92) fun r96 => Option.bind (at_ (A2_api_Wide.list a2.Out) a1) fun (x99 : api_Wide) => Option.bind (narrowsref01_Mul x99 100) fun r103 => thn (if (!r96.2) = true then true else (if (!r103.2) = true then true else (decide ((r96.1 : api_Wide) = (⟨0, 0, 0, 0⟩ : api_Wide))))) fun (y106 : Bool) => if y106 = true then (some (decide (r81 = 0))) else (Option.bind (narrowsref01_Mul r96.1 (Ui (if 0 > r81 then 0 else r81))) fun r112 => Option.bind (narrowsref01_Mul r96.1 (Ui (IntKind.i64.wrap ((if 0 > r81 then 0 else r81) + 1)))) fun r115 => Option.bind (if (decide (r81 ≥ 0)) = true then (if (decide (r81 ≤ 100)) = true then (if r112.2 = true then (Option.bind (narrowsref01_Cmp r112.1 r103.1) fun r124 => if (decide (r124 ≤ 0)) = true then (if (!r115.2) = true then (some true) else (Option.bind (narrowsref01_Cmp r115.1 r103.1) fun r128 => some (decide (r128 > 0)))) else (some false)) else (some false)) else (some false)) else (some false)) fun (y118 : Bool) => some y118))))
set_option maxRecDepth 20000 in
set_option maxHeartbeats 1000000 in
theorem S_narrowslaw38_ExposureShares (v00 : Value) (a0 : List exposure_Row) (a1 : Int) (a2 : exposure_Row) (r : Bool) (h : narrowslaw38_ExposureShares a0 a1 a2 = some r) :
    SpecF Try.prog 10 [v00, N a1, Ag (exposure_Row.cs a2)] [] [rows 18 v00 (a0.map exposure_Row.cs)] (fun _ : Unit => True) (fun z => Bo r) (fun z M =>  M) (fun z M =>  M) := by
  refine .of func10 rfl ntmps10 rfl fun w0 D0 G0 => ?_
  unfold narrowslaw38_ExposureShares at h
  refine .seq ?_
  refine .reg rfl ?_
  refine .opx (X.box (cs := (exposure_Row.cs a2)) .t2 rfl) rfl fun b1 => ?_
  refine .op0 (OpP.toV (P.asg .k)) rfl ?_
  refine .nil ?_
  refine .then ?_
  refine .seq ?_
  refine .seq ?_
  refine .reg rfl ?_
  obtain ⟨r2, hr3, h⟩ := bnd_eq h
  refine .opg (G.call call35 .nil (S_narrowslaw38_alive  r2 hr3) .nil .nil (fun _ _ => rfl) (fun _ _ => rfl) rfl) rfl fun _ _ => ?_
  refine .opp (P.not .t0) rfl ?_
  refine .nil ?_
  refine .then ?_
  refine .cond .t0 (fun c4 => ?_) (fun c4 => ?_)
  · rw [if_pos c4] at h
    refine .seq ?_
    refine .reg rfl ?_
    refine .opp (P.asg .k) rfl ?_
    refine .nil ?_
    refine .then ?_
    refine .ret ?_
    refine .thr ?_
    cases h
    exact .finw () (.r1 rfl (.tmp .g0)) trivial (Ls.of .nil) .nil
  · rw [if_neg (ne_true_of_eq_false c4)] at h
    refine .skip ?_
    refine .then ?_
    refine .seq ?_
    refine .reg rfl ?_
    refine .opp (P.asg .k) rfl ?_
    refine .nil ?_
    refine .then ?_
    obtain ⟨y5, hj7, h⟩ := bnd_eq h
    refine .cutx (γ := Unit) (E1 := fun z6 => [(7, N y5), (5, pt b1 0), (0, v00), (1, N a1)]) (L1 := fun z6 => [blk b1 83 (exposure_Row.cs a2)]) (R1 := fun z6 => [rows 18 v00 (a0.map exposure_Row.cs)]) ?_ (fun z6 => ?_)
    · clear h
      obtain ⟨y8, hj10, hj7⟩ := thn_eq hj7
      refine .cutx (γ := Unit) (E1 := fun z9 => [(28, Bo y8), (7, N ((-1))), (5, pt b1 0), (0, v00), (1, N a1)]) (L1 := fun z9 => [blk b1 83 (exposure_Row.cs a2)]) (R1 := fun z9 => [rows 18 v00 (a0.map exposure_Row.cs)]) ?_ (fun z9 => ?_)
      · clear hj7
        refine .reg rfl ?_
        refine .opp (P.mov .g3) rfl ?_
        refine .opp (P.bin .t0 .k .eql) rfl ?_
        refine .opp (P.mov .t0) rfl ?_
        refine .split .k0 (fun c11 => ?_) (fun c11 => ?_)
        · rw [if_pos c11] at hj10
          refine .gno rfl .g0 rfl rfl ?_
          refine .gno rfl .g0 rfl rfl ?_
          refine .opp (P.pickT .t0 .k) rfl ?_
          refine .nil ?_
          subst hj10
          exact .stj () (.cons Mm.m0 (.cons Mm.m1 (.cons Mm.m2 (.cons Mm.m3 (.cons Mm.m4 .nil))))) (.of (.cons .k0 .nil)) (.cons Mm.m0 .nil)
        · rw [if_neg (ne_true_of_eq_false c11)] at hj10
          refine .gyes rfl .g0 ?_
          refine .opp (P.mov .g4) rfl ?_
          refine .gyes rfl .g1 ?_
          refine .opp (P.bin .t0 .k .eql) rfl ?_
          refine .opp (P.pickF .t1 .t0) rfl ?_
          refine .nil ?_
          subst hj10
          exact .stj () (.cons Mm.m0 (.cons Mm.m1 (.cons Mm.m2 (.cons Mm.m3 (.cons Mm.m4 .nil))))) (.of (.cons .k0 .nil)) (.cons Mm.m0 .nil)
      · clear hj10
        refine .cond .t0 (fun c12 => ?_) (fun c12 => ?_)
        · rw [if_pos c12] at hj7
          refine .seq ?_
          refine .reg rfl ?_
          refine .opp (P.asg .k) rfl ?_
          refine .nil ?_
          refine .then ?_
          refine .block ?_
          obtain ⟨o15, ho16, hj7⟩ := bnd_eq hj7
          refine .loopW (γ := Unit) (fun (s13 : Int × Int) z14 => [(8, N s13.1), (7, N s13.2), (5, pt b1 0), (0, v00), (1, N a1)]) (fun (s13 : Int × Int) z14 => [blk b1 83 (exposure_Row.cs a2)]) (fun (s13 : Int × Int) z14 => [rows 18 v00 (a0.map exposure_Row.cs)]) () ho16 (.cons Mm.m0 (.cons Mm.m1 (.cons Mm.m2 (.cons Mm.m3 (.cons Mm.m4 .nil))))) (.of (.cons .k0 .nil)) (.cons Mm.m0 .nil) (fun n21 s13 z14 hr19 => ?_)
          obtain ⟨ct20, hc17, hn18⟩ := loopK_at hr19
          refine .seq ?_
          refine .seq ?_
          refine .reg rfl ?_
          refine .opp (P.mov .g0) rfl ?_
          refine .opp (P.mov .g4) rfl ?_
          refine .op (V.lnr (n := a0.length) .t0 Mm.m0 map_len runUnderlying78) rfl ?_
          refine .opp (P.bin .t1 .t0 .lss) rfl ?_
          refine .nil ?_
          refine .then ?_
          refine .cond .t0 (fun c22 => ?_) (fun c22 => ?_)
          · rw [if_pos c22] at hc17
            refine .skip ?_
            refine .then ?_
            obtain ⟨y23, hj25, hc17⟩ := bnd_eq hc17
            refine .cutx (γ := Unit) (E1 := fun z24 => [(7, N y23), (8, N s13.1), (5, pt b1 0), (0, v00), (1, N a1)]) (L1 := fun z24 => [blk b1 83 (exposure_Row.cs a2)]) (R1 := fun z24 => [rows 18 v00 (a0.map exposure_Row.cs)]) ?_ (fun z24 => ?_)
            · clear hc17
              refine .block ?_
              refine .seq ?_
              refine .reg rfl ?_
              refine .opp (P.asg .k) rfl ?_
              refine .nil ?_
              refine .then ?_
              refine .seq ?_
              refine .seq ?_
              refine .reg rfl ?_
              refine .opp (P.asg .k) rfl ?_
              refine .nil ?_
              refine .then ?_
              refine .block ?_
              obtain ⟨o28, ho29, hj25⟩ := bnd_eq hj25
              refine .loopW (γ := Unit) (fun (s26 : Int × Bool) z27 => [(10, N s26.1), (9, Bo s26.2), (8, N s13.1), (7, N s13.2), (5, pt b1 0), (0, v00), (1, N a1)]) (fun (s26 : Int × Bool) z27 => [blk b1 83 (exposure_Row.cs a2)]) (fun (s26 : Int × Bool) z27 => [rows 18 v00 (a0.map exposure_Row.cs)]) () ho29 (.cons Mm.m0 (.cons Mm.m1 (.cons Mm.m2 (.cons Mm.m3 (.cons Mm.m4 (.cons Mm.m5 (.cons Mm.m6 .nil))))))) (.of (.cons .k0 .nil)) (.cons Mm.m0 .nil) (fun n34 s26 z27 hr32 => ?_)
              obtain ⟨ct33, hc30, hn31⟩ := loopK_at hr32
              refine .seq ?_
              refine .seq ?_
              refine .reg rfl ?_
              refine .opp (P.mov .g0) rfl ?_
              refine .opp (P.mov .g6) rfl ?_
              refine .op (V.lnr (n := a0.length) .t0 Mm.m0 map_len runUnderlying78) rfl ?_
              refine .opp (P.bin .t1 .t0 .lss) rfl ?_
              refine .nil ?_
              refine .then ?_
              refine .cond .t0 (fun c35 => ?_) (fun c35 => ?_)
              · rw [if_pos c35] at hc30
                refine .skip ?_
                refine .then ?_
                obtain ⟨y36, hj38, hc30⟩ := bnd_eq hc30
                refine .cutx (γ := Unit) (E1 := fun z37 => [(9, Bo y36), (10, N s26.1), (8, N s13.1), (7, N s13.2), (5, pt b1 0), (0, v00), (1, N a1)]) (L1 := fun z37 => [blk b1 83 (exposure_Row.cs a2)]) (R1 := fun z37 => [rows 18 v00 (a0.map exposure_Row.cs)]) ?_ (fun z37 => ?_)
                · clear hc30
                  refine .block ?_
                  refine .seq ?_
                  refine .draw 16 (.on 0 .pu (.on 1 .pu (.on 2 .pu (.on 3 .pu (.on 4 .pu (.on 5 .pu (.on 7 .pu (.on 8 .pu (.on 9 .pu (.on 10 .pu (.on 11 .pu (.on 12 .pu (.on 6 .ld (.on 13 .ld (.on 14 .go (.on 15 .go .nl)))))))))))))))) follows_mixed (.thn (.inb (.thn (.thn (.inb (.thn (.inb (.thn (.thn (.inb (.thn .body))))))))))) (by kernel_rfl) ?_
                  refine .dpu rfl (.n rfl) (P.mov .g5) rfl rfl ?_
                  refine .dpu rfl (.n rfl) (P.mov .g1) rfl rfl ?_
                  refine .dpu rfl (.n rfl) (P.mov .g8) rfl rfl ?_
                  obtain ⟨x42, hx43, hj38⟩ := bnd_eq hj38
                  obtain ⟨i44, hi45, hx43⟩ := at_eq hx43
                  have hi45_ : (s26.1).toNat = i44 := by rw [hi45]; rfl
                  refine .ixq Mm.m0 (map_get hx43) fun p39 q40 hq41 => ?_
                  refine .dpu rfl (.n rfl) (P.ixi (i := i44) .t1 hi45 .t1 hq41 runUnderlying78 sizeOf83) rfl rfl ?_
                  refine .dpu rfl (.n rfl) (P.fa (off' := q40 + 9) .t0 fa_83_2 rfl) rfl rfl ?_
                  obtain ⟨x46, hx47, hj38⟩ := bnd_eq hj38
                  obtain ⟨i48, hi49, hx47⟩ := at_eq hx47
                  refine .dpu rfl (.n rfl) (P.iad (i := i48) (off' := (q40 + (9 + i48 * 4))) .t1 hi49 .t0 runUnderlying54 sizeOf27 (lt_of_get hx47) (Nat.add_assoc _ _ _)) rfl rfl ?_
                  refine .dpu rfl (.n rfl) (P.mov .g6) rfl rfl ?_
                  refine .dpu rfl (.n rfl) (P.mov .g4) rfl rfl ?_
                  refine .dpu rfl (.n rfl) (P.mov .g9) rfl rfl ?_
                  obtain ⟨x53, hx54, hj38⟩ := bnd_eq hj38
                  obtain ⟨i55, hi56, hx54⟩ := at_eq hx54
                  have hi56_ : (s13.1).toNat = i55 := by rw [hi56]; rfl
                  refine .ixq Mm.m0 (map_get hx54) fun p50 q51 hq52 => ?_
                  refine .dpu rfl (.n rfl) (P.ixi (i := i55) .t1 hi56 .t1 hq52 runUnderlying78 sizeOf83) rfl rfl ?_
                  refine .dpu rfl (.n rfl) (P.fa (off' := q51 + 9) .t0 fa_83_2 rfl) rfl rfl ?_
                  obtain ⟨x57, hx58, hj38⟩ := bnd_eq hj38
                  obtain ⟨i59, hi60, hx58⟩ := at_eq hx58
                  refine .dpu rfl (.n rfl) (P.iad (i := i59) (off' := (q51 + (9 + i59 * 4))) .t1 hi60 .t0 runUnderlying54 sizeOf27 (lt_of_get hx58) (Nat.add_assoc _ _ _)) rfl rfl ?_
                  refine .dld rfl (.n rfl) (V.ldx (u := Ag (api_Wide.cs x46)) (off := q40) (k := (9 + i48 * 4)) .t1 hq41 Mm.m0 (map_get hx43) (by rcases i48 with _ | _ | _ <;> first | (obtain rfl := Option.some.inj hx47; exact LdV.agg isAgg27 sizeOf27 rfl rfl) | (cases hx47; done))) (fun _ h => h) rfl rfl ?_
                  refine .dld rfl (.n rfl) (V.ldx (u := Ag (api_Wide.cs x57)) (off := q51) (k := (9 + i59 * 4)) .t1 hq52 Mm.m0 (map_get hx54) (by rcases i59 with _ | _ | _ <;> first | (obtain rfl := Option.some.inj hx58; exact LdV.agg isAgg27 sizeOf27 rfl rfl) | (cases hx58; done))) (fun _ h => h) rfl rfl ?_
                  obtain ⟨r61, hr62, hj38⟩ := bnd_eq hj38
                  refine .dgo rfl (.n rfl) (G.call call40 (.cons .t1 (.cons .t0 .nil)) (S_narrowsref01_Cmp x46 x57 r61 hr62) .nil .nil (fun _ _ => rfl) (fun _ _ => rfl) rfl) (.inr fun _ _ _ h => h) fun _ _ => ?_
                  refine .dgo rfl (.n rfl) (OpV.g (OpP.toV (P.asg .t0)) rfl) (.inr fun _ _ _ h => h) fun _ _ => ?_
                  refine .dnil ?_
                  refine .then ?_
                  refine .reg rfl ?_
                  refine .opp (P.mov .g2) rfl ?_
                  refine .opp (P.mov .t0) rfl ?_
                  refine .split .k0 (fun c63 => ?_) (fun c63 => ?_)
                  · rw [if_pos c63] at hj38
                    refine .gyes rfl .g0 ?_
                    refine .opp (P.mov .g1) rfl ?_
                    refine .gyes rfl .g1 ?_
                    refine .opp (P.bin .t0 .k .lss) rfl ?_
                    refine .gyes rfl .g1 ?_
                    refine .opp (P.mov .t0) rfl ?_
                    refine .split .k0 (fun c64 => ?_) (fun c64 => ?_)
                    · rw [if_pos c64] at hj38
                      refine .gno rfl .g0 rfl rfl ?_
                      refine .gno rfl .g0 rfl rfl ?_
                      refine .gwu (.g rfl rfl .g0 rfl) rfl ?_
                      refine .gw (.un rfl rfl .g0) rfl ?_
                      refine .gw (.un rfl rfl .g0) rfl ?_
                      refine .gw (.un rfl rfl .g0) rfl ?_
                      refine .gno rfl .g1 rfl rfl ?_
                      refine .gyes rfl .g2 ?_
                      refine .opp (P.pickT .t1 .k) rfl ?_
                      refine .opp (P.pickT .t2 .t0) rfl ?_
                      refine .drop .k4 ?_
                      refine .opp (P.asg .t0) rfl ?_
                      refine .nil ?_
                      refine .inn ?_
                      cases hj38
                      exact .stj () (.cons Mm.m0 (.cons Mm.m3 (.cons Mm.m4 (.cons Mm.m5 (.cons Mm.m6 (.cons Mm.m7 (.cons Mm.m8 .nil))))))) (.of (.cons .k0 .nil)) (.cons Mm.m0 .nil)
                    · rw [if_neg (ne_true_of_eq_false c64)] at hj38
                      refine .gyes rfl .g0 ?_
                      refine .opp (P.mov .t2) rfl ?_
                      refine .gyes rfl .g1 ?_
                      refine .opp (P.bin .t0 .k .eql) rfl ?_
                      refine .gyes rfl .g1 ?_
                      refine .opp (P.mov .t0) rfl ?_
                      refine .split .k0 (fun c65 => ?_) (fun c65 => ?_)
                      · rw [if_pos c65] at hj38
                        refine .gyes rfl .g0 ?_
                        refine .opp (P.mov .g3) rfl ?_
                        refine .gyes rfl .g1 ?_
                        refine .opp (P.mov .g6) rfl ?_
                        refine .gyes rfl .g2 ?_
                        refine .opp (P.bin .t1 .t0 .geq) rfl ?_
                        refine .gyes rfl .g2 ?_
                        refine .opp (P.pickT .t1 .t0) rfl ?_
                        refine .gyes rfl .g2 ?_
                        refine .opp (P.pickF .t1 .t0) rfl ?_
                        refine .opp (P.pickT .t1 .t0) rfl ?_
                        refine .drop .k2 ?_
                        refine .opp (P.asg .t0) rfl ?_
                        refine .nil ?_
                        refine .inn ?_
                        cases hj38
                        exact .stj () (.cons Mm.m0 (.cons Mm.m1 (.cons Mm.m2 (.cons Mm.m3 (.cons Mm.m4 (.cons Mm.m5 (.cons Mm.m6 .nil))))))) (.of (.cons .k0 .nil)) (.cons Mm.m0 .nil)
                      · rw [if_neg (ne_true_of_eq_false c65)] at hj38
                        refine .gno rfl .g0 rfl rfl ?_
                        refine .gno rfl .g0 rfl rfl ?_
                        refine .gno rfl .g0 rfl rfl ?_
                        refine .gyes rfl .g1 ?_
                        refine .opp (P.pickF .t0 .k) rfl ?_
                        refine .gyes rfl .g2 ?_
                        refine .opp (P.pickF .t1 .t0) rfl ?_
                        refine .opp (P.pickT .t1 .t0) rfl ?_
                        refine .drop .k2 ?_
                        refine .opp (P.asg .t0) rfl ?_
                        refine .nil ?_
                        refine .inn ?_
                        cases hj38
                        exact .stj () (.cons Mm.m0 (.cons Mm.m1 (.cons Mm.m2 (.cons Mm.m3 (.cons Mm.m4 (.cons Mm.m5 (.cons Mm.m6 .nil))))))) (.of (.cons .k0 .nil)) (.cons Mm.m0 .nil)
                  · rw [if_neg (ne_true_of_eq_false c63)] at hj38
                    refine .gno rfl .g0 rfl rfl ?_
                    refine .gno rfl .g0 rfl rfl ?_
                    refine .gwu (.g rfl rfl .g0 rfl) rfl ?_
                    refine .gw (.un rfl rfl .g0) rfl ?_
                    refine .gw (.un rfl rfl .g0) rfl ?_
                    refine .gwu (.un rfl rfl .g0) rfl ?_
                    refine .gw (.un rfl rfl .g0) rfl ?_
                    refine .gw (.un rfl rfl .g0) rfl ?_
                    refine .gw (.un rfl rfl .g0) rfl ?_
                    refine .gw (.un rfl rfl .g1) rfl ?_
                    refine .gno rfl .g2 rfl rfl ?_
                    refine .opp (P.pickF .t2 .k) rfl ?_
                    refine .drop .k5 ?_
                    refine .opp (P.asg .t0) rfl ?_
                    refine .nil ?_
                    refine .inn ?_
                    cases hj38
                    exact .stj () (.cons Mm.m0 (.cons Mm.m4 (.cons Mm.m5 (.cons Mm.m6 (.cons Mm.m7 (.cons Mm.m8 (.cons Mm.m9 .nil))))))) (.of (.cons .k0 .nil)) (.cons Mm.m0 .nil)
                · clear hj38
                  refine .reg rfl ?_
                  refine .opp (P.mov .g1) rfl ?_
                  refine .opp (P.bin .t0 .k .add) rfl ?_
                  refine .drop .k2 ?_
                  refine .opp (P.asg .t0) rfl ?_
                  refine .nil ?_
                  cases hc30
                  obtain ⟨m66, hm67, hn31⟩ := hn31
                  exact .rdW ((IntKind.i64.wrap (s26.1 + 1), y36)) () hm67 hn31 (.cons Mm.m0 (.cons Mm.m1 (.cons Mm.m2 (.cons Mm.m3 (.cons Mm.m4 (.cons Mm.m5 (.cons Mm.m6 .nil))))))) (.of (.cons .k0 .nil)) (.cons Mm.m0 .nil)
              · rw [if_neg (ne_true_of_eq_false c35)] at hc30
                refine .exit ?_
                refine .thx ?_
                cases hc30
                refine .told (γ := Unit) hj25 hn31 (fun (s26 : Int × Bool) _ => [(10, N s26.1), (9, Bo s26.2), (8, N s13.1), (7, N s13.2), (5, pt b1 0), (0, v00), (1, N a1)]) (fun (s26 : Int × Bool) _ => [blk b1 83 (exposure_Row.cs a2)]) (fun (s26 : Int × Bool) _ => [rows 18 v00 (a0.map exposure_Row.cs)]) () (.cons Mm.m0 (.cons Mm.m1 (.cons Mm.m2 (.cons Mm.m3 (.cons Mm.m4 (.cons Mm.m5 (.cons Mm.m6 .nil))))))) (.of (.cons .k0 .nil)) (.cons Mm.m0 .nil) (fun s26 _ hj25' => ?_)
                replace hj25 := hj25'
                refine .thx ?_
                refine .inb ?_
                refine .then ?_
                refine .seq ?_
                refine .reg rfl ?_
                refine .opp (P.mov .t1) rfl ?_
                refine .nil ?_
                refine .then ?_
                refine .cond .t0 (fun c68 => ?_) (fun c68 => ?_)
                · rw [if_pos c68] at hj25
                  refine .reg rfl ?_
                  refine .opp (P.mov .g4) rfl ?_
                  refine .opp (P.mov .g2) rfl ?_
                  obtain ⟨x72, hx73, hj25⟩ := bnd_eq hj25
                  obtain ⟨i74, hi75, hx73⟩ := at_eq hx73
                  have hi75_ : (s13.1).toNat = i74 := by rw [hi75]; rfl
                  refine .ixq Mm.m0 (map_get hx73) fun p69 q70 hq71 => ?_
                  refine .opp (P.ixi (i := i74) .t0 hi75 .t0 hq71 runUnderlying78 sizeOf83) rfl ?_
                  refine .opp (P.fa (off' := q70) .t0 fa_83_0 rfl) rfl ?_
                  refine .op (V.ldx0 (u := N x72.Router) .t0 hq71 Mm.m0 (map_get hx73) (.one isAgg3 rfl)) rfl ?_
                  refine .drop .k3 ?_
                  refine .opp (P.asg .t0) rfl ?_
                  refine .nil ?_
                  refine .inn ?_
                  cases hj25
                  exact .stj () (.cons Mm.m0 (.cons Mm.m2 (.cons Mm.m3 (.cons Mm.m4 (.cons Mm.m5 .nil))))) (.of (.cons .k0 .nil)) (.cons Mm.m0 .nil)
                · rw [if_neg (ne_true_of_eq_false c68)] at hj25
                  refine .skip ?_
                  refine .inn ?_
                  cases hj25
                  exact .stj () (.cons Mm.m2 (.cons Mm.m1 (.cons Mm.m3 (.cons Mm.m4 (.cons Mm.m5 .nil))))) (.of (.cons .k0 .nil)) (.cons Mm.m0 .nil)
            · clear hj25
              refine .reg rfl ?_
              refine .opp (P.mov .g1) rfl ?_
              refine .opp (P.bin .t0 .k .add) rfl ?_
              refine .drop .k2 ?_
              refine .opp (P.asg .t0) rfl ?_
              refine .nil ?_
              cases hc17
              obtain ⟨m76, hm77, hn18⟩ := hn18
              exact .rdW ((IntKind.i64.wrap (s13.1 + 1), y23)) () hm77 hn18 (.cons Mm.m0 (.cons Mm.m1 (.cons Mm.m2 (.cons Mm.m3 (.cons Mm.m4 .nil))))) (.of (.cons .k0 .nil)) (.cons Mm.m0 .nil)
          · rw [if_neg (ne_true_of_eq_false c22)] at hc17
            refine .exit ?_
            refine .thx ?_
            cases hc17
            refine .told (γ := Unit) hj7 hn18 (fun (s13 : Int × Int) _ => [(8, N s13.1), (7, N s13.2), (5, pt b1 0), (0, v00), (1, N a1)]) (fun (s13 : Int × Int) _ => [blk b1 83 (exposure_Row.cs a2)]) (fun (s13 : Int × Int) _ => [rows 18 v00 (a0.map exposure_Row.cs)]) () (.cons Mm.m0 (.cons Mm.m1 (.cons Mm.m2 (.cons Mm.m3 (.cons Mm.m4 .nil))))) (.of (.cons .k0 .nil)) (.cons Mm.m0 .nil) (fun s13 _ hj7' => ?_)
            replace hj7 := hj7'
            refine .thx ?_
            refine .inb ?_
            cases hj7
            exact .stj () (.cons Mm.m1 (.cons Mm.m2 (.cons Mm.m3 (.cons Mm.m4 .nil)))) (.of (.cons .k0 .nil)) (.cons Mm.m0 .nil)
        · rw [if_neg (ne_true_of_eq_false c12)] at hj7
          refine .skip ?_
          cases hj7
          exact .stj () (.cons Mm.m0 (.cons Mm.m1 (.cons Mm.m2 (.cons Mm.m3 .nil)))) (.of (.cons .k0 .nil)) (.cons Mm.m0 .nil)
    · clear hj7
      refine .seq ?_
      refine .seq ?_
      refine .reg rfl ?_
      refine .opp (P.mov .t2) rfl ?_
      refine .opp (P.mov .g3) rfl ?_
      obtain ⟨r78, hr79, h⟩ := bnd_eq h
      refine .opg (G.call call41 (.cons .t1 (.cons .t0 .nil)) (S_exposure_Widest v00 a0 a1 r78 hr79) .nil (.cons Mm.m0 .nil) (fun _ _ => rfl) (fun _ _ => rfl) rfl) rfl fun _ _ => ?_
      refine .opp (P.mov .t1) rfl ?_
      refine .opp (P.bin .t1 .t0 .neq) rfl ?_
      refine .nil ?_
      refine .then ?_
      refine .cond .t0 (fun c80 => ?_) (fun c80 => ?_)
      · rw [if_pos c80] at h
        refine .seq ?_
        refine .reg rfl ?_
        refine .opp (P.asg .k) rfl ?_
        refine .nil ?_
        refine .then ?_
        refine .ret ?_
        refine .thr ?_
        cases h
        exact .finw () (.r1 rfl (.tmp .g0)) trivial (Ls.of .nil) .nil
      · rw [if_neg (ne_true_of_eq_false c80)] at h
        refine .skip ?_
        refine .then ?_
        refine .seq ?_
        refine .reg rfl ?_
        refine .op (V.ld (v := Ag (exposure_Row.cs a2)) .g0 .k0 (.agg isAgg83 sizeOf83 rfl rfl)) rfl ?_
        refine .opp (P.mov .g2) rfl ?_
        obtain ⟨r81, hr82, h⟩ := bnd_eq h
        refine .opg (G.call call42 (.cons .t1 (.cons .t0 .nil)) (S_exposure_Share a2 a1 r81 hr82) .nil .nil (fun _ _ => rfl) (fun _ _ => rfl) rfl) rfl fun _ _ => ?_
        refine .opp (P.asg .t0) rfl ?_
        refine .nil ?_
        refine .then ?_
        refine .seq ?_
        obtain ⟨y83, hj85, h⟩ := thn_eq h
        refine .cutx (γ := Unit) (E1 := fun z84 => [(89, Bo y83), (12, N r81), (5, pt b1 0), (1, N a1)]) (L1 := fun z84 => [blk b1 83 (exposure_Row.cs a2)]) (R1 := fun z84 => [rows 18 v00 (a0.map exposure_Row.cs)]) ?_ (fun z84 => ?_)
        · clear h
          refine .reg rfl ?_
          refine .opp (P.mov .g2) rfl ?_
          refine .opp (P.bin .t0 .k .neq) rfl ?_
          refine .opp (P.mov .t0) rfl ?_
          refine .split .k0 (fun c86 => ?_) (fun c86 => ?_)
          · rw [if_pos c86] at hj85
            refine .gyes rfl .g0 ?_
            refine .opp (P.mov .g3) rfl ?_
            refine .gyes rfl .g1 ?_
            refine .opp (P.bin .t0 .k .neq) rfl ?_
            refine .opp (P.pickT .t1 .t0) rfl ?_
            refine .nil ?_
            subst hj85
            exact .stj () (.cons Mm.m0 (.cons Mm.m1 (.cons Mm.m2 (.cons Mm.m3 .nil)))) (.of (.cons .k0 .nil)) (.cons Mm.m0 .nil)
          · rw [if_neg (ne_true_of_eq_false c86)] at hj85
            refine .gno rfl .g0 rfl rfl ?_
            refine .gno rfl .g0 rfl rfl ?_
            refine .opp (P.pickF .t0 .k) rfl ?_
            refine .nil ?_
            subst hj85
            exact .stj () (.cons Mm.m0 (.cons Mm.m1 (.cons Mm.m2 (.cons Mm.m3 .nil)))) (.of (.cons .k0 .nil)) (.cons Mm.m0 .nil)
        · clear hj85
          refine .cond .t0 (fun c87 => ?_) (fun c87 => ?_)
          · rw [if_pos c87] at h
            refine .seq ?_
            refine .reg rfl ?_
            refine .opp (P.mov .t0) rfl ?_
            refine .opp (P.bin .t0 .k .eql) rfl ?_
            refine .opp (P.asg .t0) rfl ?_
            refine .nil ?_
            refine .then ?_
            refine .ret ?_
            refine .thr ?_
            cases h
            exact .finw () (.r1 rfl (.tmp .g0)) trivial (Ls.of .nil) .nil
          · rw [if_neg (ne_true_of_eq_false c87)] at h
            refine .skip ?_
            refine .then ?_
            refine .seq ?_
            obtain ⟨x88, hx89, h⟩ := bnd_eq h
            obtain ⟨i90, hi91, hx89⟩ := at_eq hx89
            have hi91_ : (a1).toNat = i90 := by rw [hi91]; rfl
            obtain ⟨x92, hx93, h⟩ := bnd_eq h
            obtain ⟨i94, hi95, hx93⟩ := at_eq hx93
            have hi95_ : (a1).toNat = i94 := by rw [hi95]; rfl
            obtain ⟨r96, hr97, h⟩ := bnd_eq h
            refine .dcut (γ := Nat) (φ := fun _ => True) (E1 := fun x_ => [(14, Bo r96.2), (13, pt x_ 0), (12, N r81), (5, pt b1 0), (1, N a1)]) (L1 := fun x_ => [blk x_ 27 (api_Wide.cs r96.1), blk b1 83 (exposure_Row.cs a2)]) (R1 := fun x_ => [rows 18 v00 (a0.map exposure_Row.cs)]) ?_ (fun b98 _ => ?_)
            · refine .draw 15 (.on 0 .pu (.on 1 .pu (.on 2 .pu (.on 4 .pu (.on 5 .pu (.on 6 .pu (.on 3 .ld (.on 7 .ld (.fk 8 12 (.on 9 .pu (.on 10 .pu (.on 11 .pu (.on 12 .go (.on 13 .go (.on 14 .go .nl)))))) (.on 8 .go (.on 9 .pu (.on 10 .pu (.on 11 .pu (.on 13 .go (.on 14 .go .nl))))))))))))))) follows_mixed (.thn (.thn .body)) (by kernel_rfl) ?_
              refine .dpu rfl (.n rfl) (P.mov .g2) rfl rfl ?_
              refine .dpu rfl (.n rfl) (P.fa .g2 fa_83_1 rfl) rfl rfl ?_
              refine .dpu rfl (.n rfl) (P.iad (i := i90) (off' := (1 + i90 * 4)) .t1 hi91 .t0 runUnderlying54 sizeOf27 (lt_of_get hx89) rfl) rfl rfl ?_
              refine .dpu rfl (.n rfl) (P.mov .g3) rfl rfl ?_
              refine .dpu rfl (.n rfl) (P.fa .g3 fa_83_2 rfl) rfl rfl ?_
              refine .dpu rfl (.n rfl) (P.iad (i := i94) (off' := (9 + i94 * 4)) .t1 hi95 .t0 runUnderlying54 sizeOf27 (lt_of_get hx93) rfl) rfl rfl ?_
              refine .dld rfl (.n rfl) (V.ld (v := Ag (api_Wide.cs x88)) .t1 .k0 (by rcases i90 with _ | _ | _ <;> first | (obtain rfl := Option.some.inj hx89; exact LdV.agg isAgg27 sizeOf27 rfl rfl) | (cases hx89; done))) (fun _ h => h) rfl rfl ?_
              refine .dld rfl (.n rfl) (V.ld (v := Ag (api_Wide.cs x92)) .t1 .k0 (by rcases i94 with _ | _ | _ <;> first | (obtain rfl := Option.some.inj hx93; exact LdV.agg isAgg27 sizeOf27 rfl rfl) | (cases hx93; done))) (fun _ h => h) rfl rfl ?_
              refine .dfk ?_ ?_
              · refine .dgo rfl (.n rfl) (G.call call23 (.cons .t1 (.cons .t0 .nil)) (S_narrowsref01_Add x88 x92 r96 hr97) .nil .nil (fun _ _ => rfl) (fun _ _ => rfl) rfl) (.inr fun _ _ _ h => h) fun _ _ => ?_
                refine .dpu rfl (.n rfl) (P.mov .t0) rfl rfl ?_
                refine .dpu rfl (.n rfl) (P.ext (v := Ag (api_Wide.cs r96.1)) .g0 rfl) rfl rfl ?_
                refine .dpu rfl (.n rfl) (P.ext (v := Bo r96.2) .t1 rfl) rfl rfl ?_
                refine .dgo rfl (.n rfl) (OpX.g (X.alc (cs := (api_Wide.cs ⟨0, 0, 0, 0⟩)) zeroValue27 rfl) rfl) (.inr fun _ _ _ h => (h.imp (Ls.of (.cons .k1 .nil))).ro (Rs.cons Mm.m0 Rs.nil)) fun b98 _ => ?_
                refine .dgo rfl (.n rfl) (G.str .t2 .g0 .k0 (.mk (cs' := (api_Wide.cs r96.1)) sizeOf27 rfl rfl rfl rfl)) (.inr fun _ _ _ h => (h.imp (Ls.of (.cons .k1 .nil))).ro (Rs.cons Mm.m0 Rs.nil)) fun _ _ => ?_
                refine .dgo rfl (.n rfl) (OpV.g (OpP.toV (P.asg .t1)) rfl) (.inr fun _ _ _ h => (h.imp (Ls.of (.cons .k1 .nil))).ro (Rs.cons Mm.m0 Rs.nil)) fun _ _ => ?_
                refine .dnil ?_
                exact .dst b98 trivial (.cons Mm.m0 (.cons Mm.m1 (.cons Mm.m2 (.cons Mm.m3 (.cons Mm.m4 .nil))))) (Ls.of (.cons .k0 (.cons .k0 .nil))) (.cons Mm.m0 .nil)
              · refine .dgo rfl (.n rfl) (OpX.g (X.alc (cs := (api_Wide.cs ⟨0, 0, 0, 0⟩)) zeroValue27 rfl) rfl) (.inr fun _ _ _ h => (h.imp (Ls.of (.cons .k1 .nil))).ro (Rs.cons Mm.m0 Rs.nil)) fun b98 _ => ?_
                refine .dgo rfl (.n rfl) (G.call call23 (.cons .t2 (.cons .t1 .nil)) (S_narrowsref01_Add x88 x92 r96 hr97) .nil .nil (fun _ _ => rfl) (fun _ _ => rfl) rfl) (.inr fun _ _ _ h => (h.imp (Ls.of (.cons .k1 .nil))).ro (Rs.cons Mm.m0 Rs.nil)) fun _ _ => ?_
                refine .dpu rfl (.n rfl) (P.mov .t0) rfl rfl ?_
                refine .dpu rfl (.n rfl) (P.ext (v := Ag (api_Wide.cs r96.1)) .g0 rfl) rfl rfl ?_
                refine .dpu rfl (.n rfl) (P.ext (v := Bo r96.2) .t1 rfl) rfl rfl ?_
                refine .dgo rfl (.n rfl) (G.str .t1 .g1 .k0 (.mk (cs' := (api_Wide.cs r96.1)) sizeOf27 rfl rfl rfl rfl)) (.inr fun _ _ _ h => (h.imp (Ls.of (.cons .k1 .nil))).ro (Rs.cons Mm.m0 Rs.nil)) fun _ _ => ?_
                refine .dgo rfl (.n rfl) (OpV.g (OpP.toV (P.asg .t0)) rfl) (.inr fun _ _ _ h => (h.imp (Ls.of (.cons .k1 .nil))).ro (Rs.cons Mm.m0 Rs.nil)) fun _ _ => ?_
                refine .dnil ?_
                exact .dst b98 trivial (.cons Mm.m0 (.cons Mm.m1 (.cons Mm.m2 (.cons Mm.m3 (.cons Mm.m4 .nil))))) (Ls.of (.cons .k0 (.cons .k0 .nil))) (.cons Mm.m0 .nil)
            · refine .then ?_
              refine .seq ?_
              refine .reg rfl ?_
              refine .opp (P.mov .t4) rfl ?_
              refine .opp (P.fa .t4 fa_83_2 rfl) rfl ?_
              obtain ⟨x99, hx100, h⟩ := bnd_eq h
              obtain ⟨i101, hi102, hx100⟩ := at_eq hx100
              have hi102_ : (a1).toNat = i101 := by rw [hi102]; rfl
              refine .opp (P.iad (i := i101) (off' := (9 + i101 * 4)) .t1 hi102 .t0 runUnderlying54 sizeOf27 (lt_of_get hx100) rfl) rfl ?_
              refine .op (V.ld (v := Ag (api_Wide.cs x99)) .t0 .k1 (by rcases i101 with _ | _ | _ <;> first | (obtain rfl := Option.some.inj hx100; exact LdV.agg isAgg27 sizeOf27 rfl rfl) | (cases hx100; done))) rfl ?_
              obtain ⟨r103, hr104, h⟩ := bnd_eq h
              refine .opg (G.call call43 (.cons .t0 (.cons .k .nil)) (S_narrowsref01_Mul x99 100 r103 hr104) .nil .nil (fun _ _ => rfl) (fun _ _ => rfl) rfl) rfl fun _ _ => ?_
              refine .opp (P.mov .t0) rfl ?_
              refine .opp (P.ext (v := Ag (api_Wide.cs r103.1)) .g0 rfl) rfl ?_
              refine .opp (P.ext (v := Bo r103.2) .t1 rfl) rfl ?_
              refine .opx (X.alc (cs := (api_Wide.cs ⟨0, 0, 0, 0⟩)) zeroValue27 rfl) rfl fun b105 => ?_
              refine .opg (G.str .t2 .g0 .k0 (.mk (cs' := (api_Wide.cs r103.1)) sizeOf27 rfl rfl rfl rfl)) rfl fun _ _ => ?_
              refine .opp (P.asg .t1) rfl ?_
              refine .nil ?_
              refine .then ?_
              refine .seq ?_
              obtain ⟨y106, hj108, h⟩ := thn_eq h
              refine .cutx (γ := Unit) (E1 := fun z107 => [(122, Bo y106), (15, pt b105 0), (13, pt b98 0), (12, N r81)]) (L1 := fun z107 => [blk b105 27 (api_Wide.cs r103.1), blk b98 27 (api_Wide.cs r96.1)]) (R1 := fun z107 => [rows 18 v00 (a0.map exposure_Row.cs)]) ?_ (fun z107 => ?_)
              · clear h
                refine .reg rfl ?_
                refine .opp (P.mov .t2) rfl ?_
                refine .opp (P.not .t0) rfl ?_
                refine .opp (P.mov .t0) rfl ?_
                refine .split .k0 (fun c109 => ?_) (fun c109 => ?_)
                · rw [if_pos c109] at hj108
                  refine .gno rfl .g0 rfl rfl ?_
                  refine .gno rfl .g0 rfl rfl ?_
                  refine .opp (P.pickT .t0 .k) rfl ?_
                  refine .opp (P.mov .t0) rfl ?_
                  refine .gno rfl .g0 rfl rfl ?_
                  refine .gno rfl .g0 rfl rfl ?_
                  refine .gno rfl .g0 rfl rfl ?_
                  refine .opp (P.pickT .t0 .k) rfl ?_
                  refine .nil ?_
                  subst hj108
                  exact .stj () (.cons Mm.m0 (.cons Mm.m2 (.cons Mm.m3 (.cons Mm.m4 .nil)))) (.of (.cons .k0 (.cons .k0 .nil))) (.cons Mm.m0 .nil)
                · rw [if_neg (ne_true_of_eq_false c109)] at hj108
                  refine .gyes rfl .g0 ?_
                  refine .opp (P.mov .t1) rfl ?_
                  refine .gyes rfl .g1 ?_
                  refine .opp (P.not .t0) rfl ?_
                  refine .opp (P.pickF .t1 .t0) rfl ?_
                  refine .opp (P.mov .t0) rfl ?_
                  refine .split .k0 (fun c110 => ?_) (fun c110 => ?_)
                  · rw [if_pos c110] at hj108
                    refine .gno rfl .g0 rfl rfl ?_
                    refine .gno rfl .g0 rfl rfl ?_
                    refine .gno rfl .g0 rfl rfl ?_
                    refine .opp (P.pickT .t0 .k) rfl ?_
                    refine .nil ?_
                    subst hj108
                    exact .stj () (.cons Mm.m0 (.cons Mm.m1 (.cons Mm.m2 (.cons Mm.m3 .nil)))) (.of (.cons .k0 (.cons .k0 .nil))) (.cons Mm.m0 .nil)
                  · rw [if_neg (ne_true_of_eq_false c110)] at hj108
                    refine .gyes rfl .g0 ?_
                    refine .op (V.ld (v := Ag (api_Wide.cs r96.1)) .g2 .k1 (.agg isAgg27 sizeOf27 rfl rfl)) rfl ?_
                    refine .gyes rfl .g1 ?_
                    refine .opp (P.bld (v := Ag (api_Wide.cs ⟨0, 0, 0, 0⟩)) .nil (bld_runA zeroValue27 runUnderlying27 sizeOf25 (by kernel_rfl))) rfl ?_
                    refine .gyes rfl .g2 ?_
                    refine .opp (P.bin .t1 .t0 (eq_27_eql _ _)) rfl ?_
                    refine .opp (P.pickF .t1 .t0) rfl ?_
                    refine .nil ?_
                    subst hj108
                    exact .stj () (.cons Mm.m0 (.cons Mm.m1 (.cons Mm.m2 (.cons Mm.m3 .nil)))) (.of (.cons .k0 (.cons .k0 .nil))) (.cons Mm.m0 .nil)
              · clear hj108
                refine .cond .t0 (fun c111 => ?_) (fun c111 => ?_)
                · rw [if_pos c111] at h
                  refine .seq ?_
                  refine .reg rfl ?_
                  refine .opp (P.mov .t2) rfl ?_
                  refine .opp (P.bin .t0 .k .eql) rfl ?_
                  refine .opp (P.asg .t0) rfl ?_
                  refine .nil ?_
                  refine .then ?_
                  refine .ret ?_
                  refine .thr ?_
                  cases h
                  exact .finw () (.r1 rfl (.tmp .g0)) trivial (Ls.of .nil) .nil
                · rw [if_neg (ne_true_of_eq_false c111)] at h
                  refine .skip ?_
                  refine .then ?_
                  refine .seq ?_
                  refine .reg rfl ?_
                  refine .op (V.ld (v := Ag (api_Wide.cs r96.1)) .g1 .k1 (.agg isAgg27 sizeOf27 rfl rfl)) rfl ?_
                  refine .opp (P.mov .g3) rfl ?_
                  refine .opp (P.max2 .t0 .k) rfl ?_
                  refine .opp (P.cnvU (m := if 0 > r81 then 0 else r81) .t0 runUnderlying3 runUnderlying25) rfl ?_
                  obtain ⟨r112, hr113, h⟩ := bnd_eq h
                  refine .opg (G.call call43 (.cons .t1 (.cons .t0 .nil)) (S_narrowsref01_Mul r96.1 (Ui (if 0 > r81 then 0 else r81)) r112 hr113) .nil .nil (fun _ _ => rfl) (fun _ _ => rfl) rfl) rfl fun _ _ => ?_
                  refine .opp (P.mov .t0) rfl ?_
                  refine .opp (P.ext (v := Ag (api_Wide.cs r112.1)) .g0 rfl) rfl ?_
                  refine .opp (P.ext (v := Bo r112.2) .t1 rfl) rfl ?_
                  refine .opx (X.alc (cs := (api_Wide.cs ⟨0, 0, 0, 0⟩)) zeroValue27 rfl) rfl fun b114 => ?_
                  refine .opg (G.str .t2 .g0 .k0 (.mk (cs' := (api_Wide.cs r112.1)) sizeOf27 rfl rfl rfl rfl)) rfl fun _ _ => ?_
                  refine .opp (P.asg .t1) rfl ?_
                  refine .nil ?_
                  refine .then ?_
                  refine .seq ?_
                  refine .reg rfl ?_
                  refine .op (V.ld (v := Ag (api_Wide.cs r96.1)) .t3 .k2 (.agg isAgg27 sizeOf27 rfl rfl)) rfl ?_
                  refine .opp (P.mov .g4) rfl ?_
                  refine .opp (P.max2 .t0 .k) rfl ?_
                  refine .opp (P.bin .t0 .k .add) rfl ?_
                  refine .opp (P.cnvU (m := IntKind.i64.wrap ((if 0 > r81 then 0 else r81) + 1)) .t0 runUnderlying3 runUnderlying25) rfl ?_
                  obtain ⟨r115, hr116, h⟩ := bnd_eq h
                  refine .opg (G.call call43 (.cons .t1 (.cons .t0 .nil)) (S_narrowsref01_Mul r96.1 (Ui (IntKind.i64.wrap ((if 0 > r81 then 0 else r81) + 1))) r115 hr116) .nil .nil (fun _ _ => rfl) (fun _ _ => rfl) rfl) rfl fun _ _ => ?_
                  refine .opp (P.mov .t0) rfl ?_
                  refine .opp (P.ext (v := Ag (api_Wide.cs r115.1)) .g0 rfl) rfl ?_
                  refine .opp (P.ext (v := Bo r115.2) .t1 rfl) rfl ?_
                  refine .opx (X.alc (cs := (api_Wide.cs ⟨0, 0, 0, 0⟩)) zeroValue27 rfl) rfl fun b117 => ?_
                  refine .opg (G.str .t2 .g0 .k0 (.mk (cs' := (api_Wide.cs r115.1)) sizeOf27 rfl rfl rfl rfl)) rfl fun _ _ => ?_
                  refine .opp (P.asg .t1) rfl ?_
                  refine .nil ?_
                  refine .then ?_
                  obtain ⟨y118, hj120, h⟩ := bnd_eq h
                  refine .cutx (γ := Unit) (E1 := fun z119 => [(6, Bo y118)]) (L1 := fun z119 => []) (R1 := fun z119 => [rows 18 v00 (a0.map exposure_Row.cs)]) ?_ (fun z119 => ?_)
                  · clear h
                    refine .reg rfl ?_
                    refine .opp (P.mov .g5) rfl ?_
                    refine .opp (P.bin .t0 .k .geq) rfl ?_
                    refine .opp (P.mov .t0) rfl ?_
                    refine .split .k0 (fun c121 => ?_) (fun c121 => ?_)
                    · rw [if_pos c121] at hj120
                      refine .gyes rfl .g0 ?_
                      refine .opp (P.mov .t6) rfl ?_
                      refine .gyes rfl .g1 ?_
                      refine .opp (P.bin .t0 .k .leq) rfl ?_
                      refine .opp (P.pickT .t1 .t0) rfl ?_
                      refine .opp (P.mov .t0) rfl ?_
                      refine .split .k0 (fun c122 => ?_) (fun c122 => ?_)
                      · rw [if_pos c122] at hj120
                        refine .gyes rfl .g0 ?_
                        refine .opp (P.mov .t3) rfl ?_
                        refine .opp (P.pickT .t1 .t0) rfl ?_
                        refine .opp (P.mov .t0) rfl ?_
                        refine .split .k0 (fun c123 => ?_) (fun c123 => ?_)
                        · rw [if_pos c123] at hj120
                          refine .gyes rfl .g0 ?_
                          refine .op (V.ld (v := Ag (api_Wide.cs r112.1)) .t3 .k1 (.agg isAgg27 sizeOf27 rfl rfl)) rfl ?_
                          refine .gyes rfl .g1 ?_
                          refine .op (V.ld (v := Ag (api_Wide.cs r103.1)) .g4 .k2 (.agg isAgg27 sizeOf27 rfl rfl)) rfl ?_
                          refine .gyes rfl .g2 ?_
                          obtain ⟨r124, hr125, hj120⟩ := bnd_eq hj120
                          refine .opg (G.call call40 (.cons .t1 (.cons .t0 .nil)) (S_narrowsref01_Cmp r112.1 r103.1 r124 hr125) .nil .nil (fun _ _ => rfl) (fun _ _ => rfl) rfl) rfl fun _ _ => ?_
                          refine .gyes rfl .g1 ?_
                          refine .opp (P.bin .t0 .k .leq) rfl ?_
                          refine .opp (P.pickT .t1 .t0) rfl ?_
                          refine .opp (P.mov .t0) rfl ?_
                          refine .split .k0 (fun c126 => ?_) (fun c126 => ?_)
                          · rw [if_pos c126] at hj120
                            refine .gyes rfl .g0 ?_
                            refine .opp (P.mov .t1) rfl ?_
                            refine .gyes rfl .g1 ?_
                            refine .opp (P.not .t0) rfl ?_
                            refine .gyes rfl .g1 ?_
                            refine .opp (P.mov .t0) rfl ?_
                            refine .split .k0 (fun c127 => ?_) (fun c127 => ?_)
                            · rw [if_pos c127] at hj120
                              refine .gno rfl .g0 rfl rfl ?_
                              refine .gno rfl .g0 rfl rfl ?_
                              refine .gno rfl .g0 rfl rfl ?_
                              refine .gno rfl .g0 rfl rfl ?_
                              refine .gyes rfl .g1 ?_
                              refine .opp (P.pickT .t0 .k) rfl ?_
                              refine .opp (P.pickT .t1 .t0) rfl ?_
                              refine .opp (P.asg .t0) rfl ?_
                              refine .nil ?_
                              cases hj120
                              exact .stj () (.cons Mm.m0 .nil) (.of .nil) (.cons Mm.m0 .nil)
                            · rw [if_neg (ne_true_of_eq_false c127)] at hj120
                              refine .gyes rfl .g0 ?_
                              refine .op (V.ld (v := Ag (api_Wide.cs r115.1)) .t2 .k0 (.agg isAgg27 sizeOf27 rfl rfl)) rfl ?_
                              refine .gyes rfl .g1 ?_
                              refine .op (V.ld (v := Ag (api_Wide.cs r103.1)) .t3 .k2 (.agg isAgg27 sizeOf27 rfl rfl)) rfl ?_
                              refine .gyes rfl .g2 ?_
                              obtain ⟨r128, hr129, hj120⟩ := bnd_eq hj120
                              refine .opg (G.call call40 (.cons .t1 (.cons .t0 .nil)) (S_narrowsref01_Cmp r115.1 r103.1 r128 hr129) .nil .nil (fun _ _ => rfl) (fun _ _ => rfl) rfl) rfl fun _ _ => ?_
                              refine .gyes rfl .g1 ?_
                              refine .opp (P.bin .t0 .k .gtr) rfl ?_
                              refine .gyes rfl .g2 ?_
                              refine .opp (P.pickF .t1 .t0) rfl ?_
                              refine .opp (P.pickT .t1 .t0) rfl ?_
                              refine .opp (P.asg .t0) rfl ?_
                              refine .nil ?_
                              cases hj120
                              exact .stj () (.cons Mm.m0 .nil) (.of .nil) (.cons Mm.m0 .nil)
                          · rw [if_neg (ne_true_of_eq_false c126)] at hj120
                            refine .gno rfl .g0 rfl rfl ?_
                            refine .gno rfl .g0 rfl rfl ?_
                            refine .gwu (.g rfl rfl .g0 rfl) rfl ?_
                            refine .gw (.un rfl rfl .g0) rfl ?_
                            refine .gw (.un rfl rfl .g0) rfl ?_
                            refine .gw (.un rfl rfl .g0) rfl ?_
                            refine .gw (.un rfl rfl .g0) rfl ?_
                            refine .gno rfl .g1 rfl rfl ?_
                            refine .opp (P.pickF .t1 .k) rfl ?_
                            refine .opp (P.asg .t0) rfl ?_
                            refine .nil ?_
                            cases hj120
                            exact .stj () (.cons Mm.m0 .nil) (.of .nil) (.cons Mm.m0 .nil)
                        · rw [if_neg (ne_true_of_eq_false c123)] at hj120
                          refine .gno rfl .g0 rfl rfl ?_
                          refine .gno rfl .g0 rfl rfl ?_
                          refine .gno rfl .g0 rfl rfl ?_
                          refine .gno rfl .g0 rfl rfl ?_
                          refine .opp (P.pickF .t0 .k) rfl ?_
                          refine .opp (P.mov .t0) rfl ?_
                          refine .gno rfl .g0 rfl rfl ?_
                          refine .gno rfl .g0 rfl rfl ?_
                          refine .gwu (.g rfl rfl .g0 rfl) rfl ?_
                          refine .gw (.un rfl rfl .g0) rfl ?_
                          refine .gw (.un rfl rfl .g0) rfl ?_
                          refine .gw (.un rfl rfl .g0) rfl ?_
                          refine .gw (.un rfl rfl .g0) rfl ?_
                          refine .gno rfl .g1 rfl rfl ?_
                          refine .opp (P.pickF .t1 .k) rfl ?_
                          refine .opp (P.asg .t0) rfl ?_
                          refine .nil ?_
                          cases hj120
                          exact .stj () (.cons Mm.m0 .nil) (.of .nil) (.cons Mm.m0 .nil)
                      · rw [if_neg (ne_true_of_eq_false c122)] at hj120
                        refine .gno rfl .g0 rfl rfl ?_
                        refine .opp (P.pickF .t0 .k) rfl ?_
                        refine .opp (P.mov .t0) rfl ?_
                        refine .gno rfl .g0 rfl rfl ?_
                        refine .gno rfl .g0 rfl rfl ?_
                        refine .gno rfl .g0 rfl rfl ?_
                        refine .gno rfl .g0 rfl rfl ?_
                        refine .opp (P.pickF .t0 .k) rfl ?_
                        refine .opp (P.mov .t0) rfl ?_
                        refine .gno rfl .g0 rfl rfl ?_
                        refine .gno rfl .g0 rfl rfl ?_
                        refine .gwu (.g rfl rfl .g0 rfl) rfl ?_
                        refine .gw (.un rfl rfl .g0) rfl ?_
                        refine .gw (.un rfl rfl .g0) rfl ?_
                        refine .gw (.un rfl rfl .g0) rfl ?_
                        refine .gw (.un rfl rfl .g0) rfl ?_
                        refine .gno rfl .g1 rfl rfl ?_
                        refine .opp (P.pickF .t1 .k) rfl ?_
                        refine .opp (P.asg .t0) rfl ?_
                        refine .nil ?_
                        cases hj120
                        exact .stj () (.cons Mm.m0 .nil) (.of .nil) (.cons Mm.m0 .nil)
                    · rw [if_neg (ne_true_of_eq_false c121)] at hj120
                      refine .gno rfl .g0 rfl rfl ?_
                      refine .gno rfl .g0 rfl rfl ?_
                      refine .opp (P.pickF .t0 .k) rfl ?_
                      refine .opp (P.mov .t0) rfl ?_
                      refine .gno rfl .g0 rfl rfl ?_
                      refine .opp (P.pickF .t0 .k) rfl ?_
                      refine .opp (P.mov .t0) rfl ?_
                      refine .gno rfl .g0 rfl rfl ?_
                      refine .gno rfl .g0 rfl rfl ?_
                      refine .gno rfl .g0 rfl rfl ?_
                      refine .gno rfl .g0 rfl rfl ?_
                      refine .opp (P.pickF .t0 .k) rfl ?_
                      refine .opp (P.mov .t0) rfl ?_
                      refine .gno rfl .g0 rfl rfl ?_
                      refine .gno rfl .g0 rfl rfl ?_
                      refine .gwu (.g rfl rfl .g0 rfl) rfl ?_
                      refine .gw (.un rfl rfl .g0) rfl ?_
                      refine .gw (.un rfl rfl .g0) rfl ?_
                      refine .gw (.un rfl rfl .g0) rfl ?_
                      refine .gw (.un rfl rfl .g0) rfl ?_
                      refine .gno rfl .g1 rfl rfl ?_
                      refine .opp (P.pickF .t1 .k) rfl ?_
                      refine .opp (P.asg .t0) rfl ?_
                      refine .nil ?_
                      cases hj120
                      exact .stj () (.cons Mm.m0 .nil) (.of .nil) (.cons Mm.m0 .nil)
                  · clear hj120
                    refine .ret ?_
                    cases h
                    exact .finw () (.r1 rfl (.tmp .g0)) trivial (Ls.of .nil) .nil
attribute [irreducible] narrowslaw38_ExposureShares
end Go.Sl
