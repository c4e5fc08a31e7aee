/- Walked code of the program, its pure functions and their contracts. -/
import Derived.Test.YteijfoldbinghaaGreatSlHpd
set_option linter.unusedVariables false
set_option linter.unusedSimpArgs false
namespace Go.Sl
open Go.Proofs Go.Proofs.Tryz
theorem fa_76_1 : FaV Tryz.prog 76 1 1 := .mk runUnderlying76 rfl sizeOf9 rfl rfl
theorem fa_76_2 : FaV Tryz.prog 76 2 2 := .mk runUnderlying76 rfl sizeOf3 rfl rfl
theorem pl_76 : ∀ w, ((#[{ name := "Key", type := 9, offset := 0, embedded := false, tag := "", pkgPath := "", byteOffset := 0 }, { name := "Digest", type := 9, offset := 1, embedded := false, tag := "", pkgPath := "", byteOffset := 16 }, { name := "Status", type := 3, offset := 2, embedded := false, tag := "", pkgPath := "", byteOffset := 32 }] : Array Field).mapM fun f => do pure (f.offset, ← sizeOf f.type) : Sem (Array (Nat × Nat))).run Tryz.prog w = .ok #[(0, 1), (1, 1), (2, 1)] w := fun w => by simp [sizeOf3, sizeOf9]
theorem one_3 (x : Int) : oneAll ((fun x => [N x]) x) = true := rfl
theorem one_9 (x : ByteArray) : oneAll ((fun x => [.string x]) x) = true := rfl
noncomputable def field_Out_Wide (a0 : field_Out) (a1 : api_Wide) : Option (field_Out) :=
  Option.bind (blob_Wide a1) fun r2 => Option.bind (field_Out_put a0 r2 0) fun r5 => some r5
set_option maxRecDepth 20000 in
set_option maxHeartbeats 1000000 in
theorem S_field_Out_Wide (b00 : Nat) (a0 : field_Out) (z00a : Value) (a1 : api_Wide) (r : field_Out) (h : field_Out_Wide a0 a1 = some r) :
    SpecF Tryz.prog 95 [pt b00 0, Ag (api_Wide.cs a1)] [blk b00 143 (field_Out.cs a0 z00a), lst 5 1 z00a (a0.b.map (fun x => [B8 x]))] [] (fun z : Value => True) (fun z => Tu []) (fun z M => blk b00 143 (field_Out.cs r z) :: lst 5 1 z (r.b.map (fun x => [B8 x])) ::  M) (fun z M =>  M) := by
  refine .of func95 rfl ntmps95 rfl fun w0 D0 G0 => ?_
  unfold field_Out_Wide at h
  refine .seq ?_
  refine .reg rfl ?_
  refine .opx (X.box (cs := (api_Wide.cs a1)) .t1 rfl) rfl fun b1 => ?_
  refine .nil ?_
  refine .then ?_
  refine .reg rfl ?_
  refine .opp (P.mov .t1) rfl ?_
  refine .op (V.ld (v := Ag (api_Wide.cs a1)) .t1 .k0 (.agg isAgg30 sizeOf30 rfl rfl)) rfl ?_
  obtain ⟨r2, hr3, h⟩ := bnd_eq h
  refine .opg (G.call call108 (.cons .t0 .nil) (S_blob_Wide a1 r2 hr3) .nil .nil (fun _ _ => rfl) (fun _ _ => rfl) rfl) rfl fun u4 _ => ?_
  refine .frz .k0 ?_
  obtain ⟨r5, hr6, h⟩ := bnd_eq h
  refine .opg (G.call call93 (.cons .t1 (.cons .t0 (.cons .k .nil))) (S_field_Out_put b00 a0 z00a u4 r2 0 r5 hr6) (.cons .k1 (.cons .k1 .nil)) (.cons Mm.m0 .nil) (fun _ _ => rfl) (fun _ _ => rfl) rfl) rfl fun u7 _ => ?_
  refine .drop .k0 ?_
  refine .nil ?_
  cases h
  exact .finwn u7 (.r0 rfl) trivial (Ls.of (.cons .k0 (.cons .k0 .nil))) .nil
attribute [irreducible] field_Out_Wide
noncomputable def deal_PutVar (a0 : field_Out) (a1 : api_Var) : Option (field_Out) :=
  Option.bind (field_Out_Wide a0 a1.Amount) fun r2 => Option.bind (field_Out_Num r2 a1.Expiry) fun r5 => some r5
set_option maxRecDepth 20000 in
set_option maxHeartbeats 1000000 in
theorem S_deal_PutVar (b00 : Nat) (a0 : field_Out) (z00a : Value) (a1 : api_Var) (r : field_Out) (h : deal_PutVar a0 a1 = some r) :
    SpecF Tryz.prog 87 [pt b00 0, Ag (api_Var.cs a1)] [blk b00 143 (field_Out.cs a0 z00a), lst 5 1 z00a (a0.b.map (fun x => [B8 x]))] [] (fun z : Value => True) (fun z => Tu []) (fun z M => blk b00 143 (field_Out.cs r z) :: lst 5 1 z (r.b.map (fun x => [B8 x])) ::  M) (fun z M =>  M) := by
  refine .of func87 rfl ntmps87 rfl fun w0 D0 G0 => ?_
  unfold deal_PutVar at h
  refine .seq ?_
  refine .reg rfl ?_
  refine .opx (X.box (cs := (api_Var.cs a1)) .t1 rfl) rfl fun b1 => ?_
  refine .nil ?_
  refine .then ?_
  refine .seq ?_
  refine .reg rfl ?_
  refine .opp (P.mov .g1) rfl ?_
  refine .opp (P.fa .g1 fa_34_0 rfl) rfl ?_
  refine .op (V.ld (v := Ag (api_Wide.cs a1.Amount)) .t0 .k0 (.agg isAgg30 sizeOf30 rfl rfl)) rfl ?_
  obtain ⟨r2, hr3, h⟩ := bnd_eq h
  refine .opg (G.call call95 (.cons .t1 (.cons .t0 .nil)) (S_field_Out_Wide b00 a0 z00a a1.Amount r2 hr3) (.cons .k1 (.cons .k1 .nil)) .nil (fun _ _ => rfl) (fun _ _ => rfl) rfl) rfl fun u4 _ => ?_
  refine .drop .k0 ?_
  refine .nil ?_
  refine .then ?_
  refine .reg rfl ?_
  refine .opp (P.mov .t1) rfl ?_
  refine .opp (P.fa .t1 fa_34_1 rfl) rfl ?_
  refine .op (V.ld (v := N a1.Expiry) .t0 .k2 (.one isAgg3 rfl)) rfl ?_
  obtain ⟨r5, hr6, h⟩ := bnd_eq h
  refine .opg (G.call call90 (.cons .t1 (.cons .t0 .nil)) (S_field_Out_Num b00 r2 u4 a1.Expiry r5 hr6) (.cons .k0 (.cons .k0 .nil)) .nil (fun _ _ => rfl) (fun _ _ => rfl) rfl) rfl fun u7 _ => ?_
  refine .drop .k0 ?_
  refine .nil ?_
  cases h
  exact .finwn u7 (.r0 rfl) trivial (Ls.of (.cons .k0 (.cons .k0 .nil))) .nil
attribute [irreducible] deal_PutVar
noncomputable def deal_Digest (a0 : api_Inv) (a1 : api_Var) : Option (ByteArray) :=
  Option.bind (deal_Key a0) fun r3 => thn (if (decide (r3 = ⟨#[]⟩)) = true then true else (decide ((deal_Sound a1) ≠ 0))) fun (y5 : Bool) => if y5 = true then (some ⟨#[]⟩) else (Option.bind (field_Out_Text field_New r3) fun r12 => Option.bind (deal_PutVar r12 a1) fun r15 => Option.bind (field_Out_Done r15) fun r18 => Option.bind (hash_Text_n1 r18.1) fun r23 => some r23)
set_option maxRecDepth 20000 in
set_option maxHeartbeats 1000000 in
theorem S_deal_Digest (a0 : api_Inv) (a1 : api_Var) (r : ByteArray) (h : deal_Digest a0 a1 = some r) :
    SpecF Tryz.prog 77 [Ag (api_Inv.cs a0), Ag (api_Var.cs a1)] [] [] (fun z : Unit => True) (fun z => .string r) (fun z M =>  M) (fun z M =>  M) := by
  refine .of func77 rfl ntmps77 rfl fun w0 D0 G0 => ?_
  unfold deal_Digest at h
  refine .seq ?_
  refine .reg rfl ?_
  refine .opx (X.box (cs := (api_Inv.cs a0)) .t0 rfl) rfl fun b1 => ?_
  refine .opx (X.box (cs := (api_Var.cs a1)) .t1 rfl) rfl fun b2 => ?_
  refine .op0 (OpP.toV (P.asg .k)) rfl ?_
  refine .nil ?_
  refine .then ?_
  refine .seq ?_
  refine .reg rfl ?_
  refine .op (V.ld (v := Ag (api_Inv.cs a0)) .t1 .k1 (.agg isAgg32 sizeOf32 rfl rfl)) rfl ?_
  obtain ⟨r3, hr4, h⟩ := bnd_eq h
  refine .opg (G.call call75 (.cons .t0 .nil) (S_deal_Key a0 r3 hr4) .nil .nil (fun _ _ => rfl) (fun _ _ => rfl) rfl) rfl fun _ _ => ?_
  refine .opp (P.asg .t0) rfl ?_
  refine .nil ?_
  refine .then ?_
  refine .seq ?_
  obtain ⟨y5, hj7, h⟩ := thn_eq h
  refine .cutx (γ := Unit) (E1 := fun z6 => [(17, Bo y5), (5, .string r3), (3, pt b2 0)]) (L1 := fun z6 => [blk b2 34 (api_Var.cs a1)]) (R1 := fun z6 => []) ?_ (fun z6 => ?_)
  · clear h
    refine .reg rfl ?_
    refine .opp (P.mov .g0) rfl ?_
    refine .opp (P.bin .t0 .k .str_eql) rfl ?_
    refine .opp (P.mov .t0) rfl ?_
    refine .split .k0 (fun c8 => ?_) (fun c8 => ?_)
    · rw [if_pos c8] at hj7
      refine .gno rfl .g0 rfl rfl ?_
      refine .gno rfl .g0 rfl rfl ?_
      refine .gno rfl .g0 rfl rfl ?_
      refine .opp (P.pickT .t0 .k) rfl ?_
      refine .nil ?_
      subst hj7
      exact .stj () (.cons Mm.m0 (.cons Mm.m1 (.cons Mm.m2 .nil))) (.of (.cons .k0 .nil)) .nil
    · rw [if_neg (ne_true_of_eq_false c8)] at hj7
      refine .gyes rfl .g0 ?_
      refine .op (V.ld (v := Ag (api_Var.cs a1)) .g2 .k0 (.agg isAgg34 sizeOf34 rfl rfl)) rfl ?_
      refine .gyes rfl .g1 ?_
      refine .opg (G.call call44 (.cons .t0 .nil) (S_deal_Sound a1 _ rfl) .nil .nil (fun _ _ => rfl) (fun _ _ => rfl) rfl) rfl fun _ _ => ?_
      refine .gyes rfl .g1 ?_
      refine .opp (P.bin .t0 .k .neq) rfl ?_
      refine .opp (P.pickF .t1 .t0) rfl ?_
      refine .nil ?_
      subst hj7
      exact .stj () (.cons Mm.m0 (.cons Mm.m1 (.cons Mm.m2 .nil))) (.of (.cons .k0 .nil)) .nil
  · clear hj7
    refine .cond .t0 (fun c9 => ?_) (fun c9 => ?_)
    · rw [if_pos c9] at h
      refine .seq ?_
      refine .reg rfl ?_
      refine .opp (P.asg .k) rfl ?_
      refine .nil ?_
      refine .then ?_
      refine .ret ?_
      refine .thr ?_
      cases h
      exact .finw () (.r1 rfl (.tmp .g0)) trivial (Ls.of .nil) .nil
    · rw [if_neg (ne_true_of_eq_false c9)] at h
      refine .skip ?_
      refine .then ?_
      refine .seq ?_
      refine .reg rfl ?_
      refine .opg (G.call call80 .nil (S_field_New  _ rfl) .nil .nil (fun _ _ => rfl) (fun _ _ => rfl) rfl) rfl fun ⟨b10, u11⟩ _ => ?_
      refine .opp (P.asg .t0) rfl ?_
      refine .nil ?_
      refine .then ?_
      refine .seq ?_
      refine .reg rfl ?_
      refine .opp (P.mov .g0) rfl ?_
      refine .opp (P.mov .t2) rfl ?_
      obtain ⟨r12, hr13, h⟩ := bnd_eq h
      refine .opg (G.call call86 (.cons .t1 (.cons .t0 .nil)) (S_field_Out_Text b10 field_New u11 r3 r12 hr13) (.cons .k0 (.cons .k0 .nil)) .nil (fun _ _ => rfl) (fun _ _ => rfl) rfl) rfl fun u14 _ => ?_
      refine .drop .k0 ?_
      refine .nil ?_
      refine .then ?_
      refine .seq ?_
      refine .reg rfl ?_
      refine .opp (P.mov .g0) rfl ?_
      refine .op (V.ld (v := Ag (api_Var.cs a1)) .t2 .k2 (.agg isAgg34 sizeOf34 rfl rfl)) rfl ?_
      obtain ⟨r15, hr16, h⟩ := bnd_eq h
      refine .opg (G.call call87 (.cons .t1 (.cons .t0 .nil)) (S_deal_PutVar b10 r12 u14 a1 r15 hr16) (.cons .k0 (.cons .k0 .nil)) .nil (fun _ _ => rfl) (fun _ _ => rfl) rfl) rfl fun u17 _ => ?_
      refine .drop .k0 ?_
      refine .nil ?_
      refine .then ?_
      refine .seq ?_
      refine .reg rfl ?_
      refine .opp (P.mov .t0) rfl ?_
      obtain ⟨r18, hr19, h⟩ := bnd_eq h
      refine .opg (G.call call82 (.cons .t0 .nil) (S_field_Out_Done b10 r15 u17 r18 hr19) (.cons .k0 (.cons .k0 .nil)) .nil (fun _ _ => rfl) (fun _ _ => rfl) rfl) rfl fun u20 _ => ?_
      refine .opp (P.mov .t0) rfl ?_
      refine .opp (P.ext (v := u20) .g0 rfl) rfl ?_
      refine .opp (P.ext (v := N r18.2) .t1 rfl) rfl ?_
      refine .opp (P.asg .t1) rfl ?_
      refine .op0 (OpP.toV (P.asg .t1)) rfl ?_
      refine .nil ?_
      refine .then ?_
      refine .seq ?_
      refine .reg rfl ?_
      refine .opp (P.mov .t0) rfl ?_
      refine .onel .k2 fun ho22 => ?_
      refine .opg (G.bsl (cs := [u20]) .t0 runUnderlying146 sizeOf131 zeroValue131 (cells1 ho22) rfl rfl rfl rfl) rfl fun u21 _ => ?_
      refine .frz .k0 ?_
      refine .frz .k2 ?_
      obtain ⟨r23, hr24, h⟩ := bnd_eq h
      refine .opg (G.call call83 (.cons .t0 .nil) (S_hash_Text_n1 u21 u20 r18.1 r23 hr24) .nil (.cons Mm.m1 (.cons Mm.m0 .nil)) (fun _ _ => rfl) (fun _ _ => rfl) rfl) rfl fun _ _ => ?_
      refine .opp (P.asg .t0) rfl ?_
      refine .nil ?_
      refine .then ?_
      refine .ret ?_
      cases h
      exact .finw () (.r1 rfl (.tmp .g0)) trivial (Ls.of .nil) .nil
attribute [irreducible] deal_Digest
noncomputable def escrow_State_prepare (a0 : escrow_State) (a1 : api_Tx) : Option (Px (escrow_State)) :=
  Option.bind (deal_Key a1.Inv) fun r2 => Option.bind (escrow_State_place a0 r2) fun r4 => pxe (escrow_need (decide (r4 < 0)) 32) (fun e8 => some (.er e8)) fun r6 => Option.bind (if (decide (a1.Var.Expiry > a0.Time)) = true then (pxe (escrow_need (decide ((IntKind.i64.wrap (a1.Var.Expiry - a0.Time)) ≤ 1024)) 34) (fun e15 => Option.map Lo.rt (some (.er e15))) fun r13 => some (Lo.dn ())) else (pxe (escrow_need false 34) (fun e20 => Option.map Lo.rt (some (.er e20))) fun r18 => some (Lo.dn ()))) fun o59 => Lo.on o59 fun (_ : Unit) => Option.bind (if (decide (a0.Side = 1)) = true then (pxe (escrow_need (decide (a1.From = a1.Inv.Router)) 37) (fun e29 => Option.map Lo.rt (some (.er e29))) fun r27 => pxe (escrow_State_vault a0 a1.From a1.Inv.Recv a1.Var.Amount) (fun e34 => Option.map Lo.rt (some (.er e34))) fun r32 => some (Lo.dn r32)) else (pxe (escrow_need (decide (a1.From = a1.Inv.User)) 37) (fun e39 => Option.map Lo.rt (some (.er e39))) fun r37 => pxe (escrow_take_int a0.Purse a1.From a1.Inv.Send a1.Var.Amount) (fun e44 => Option.map Lo.rt (some (.er e44))) fun r42 => pxe (escrow_State_hold (⟨a0.Side, a0.Time, r42, a0.Vault, a0.Nonces, a0.Held, a0.Burnt, a0.Locks⟩ : escrow_State) a1.Inv.Send a1.Var.Amount) (fun e49 => Option.map Lo.rt (some (.er e49))) fun r47 => some (Lo.dn r47))) fun o58 => Lo.on o58 fun (y23 : escrow_State) => Option.bind (deal_Digest a1.Inv a1.Var) fun r52 => grd ((y23.Locks.length + ([⟨r2, r52, 1⟩] : List escrow_Lock).length) * 40 ≤ 140737488355328) <| some ((.ok ((⟨y23.Side, y23.Time, y23.Purse, y23.Vault, y23.Nonces, y23.Held, y23.Burnt, (y23.Locks ++ ([⟨r2, r52, 1⟩] : List escrow_Lock))⟩ : escrow_State))))
set_option maxRecDepth 20000 in
set_option maxHeartbeats 1000000 in
theorem S_escrow_State_prepare (b00 : Nat) (a0 : escrow_State) (z00a : Value) (a1 : api_Tx) (r : Px (escrow_State)) (h : escrow_State_prepare a0 a1 = some r) :
    SpecX Tryz.prog 65 [pt b00 0, Ag (api_Tx.cs a1)] [blk b00 45 (escrow_State.cs a0 z00a), lst 76 3 z00a (a0.Locks.map escrow_Lock.cs)] [] (fun (r : escrow_State) (z : Value) => True) mustCh r (fun r z => Tu []) (fun r z M => blk b00 45 (escrow_State.cs r z) :: lst 76 3 z (r.Locks.map escrow_Lock.cs) ::  M) (fun r z M =>  M) := by
  refine .of func65 rfl ntmps65 rfl fun w0 D0 G0 => ?_
  unfold escrow_State_prepare at h
  refine .seq ?_
  refine .reg rfl ?_
  refine .opx (X.box (cs := (api_Tx.cs a1)) .t1 rfl) rfl fun b1 => ?_
  refine .nil ?_
  refine .then ?_
  refine .seq ?_
  refine .reg rfl ?_
  refine .opp (P.fa .g0 fa_36_5 rfl) rfl ?_
  refine .op (V.ld (v := Ag (api_Inv.cs a1.Inv)) .t0 .k0 (.agg isAgg32 sizeOf32 rfl rfl)) rfl ?_
  obtain ⟨r2, hr3, h⟩ := bnd_eq h
  refine .opg (G.call call75 (.cons .t0 .nil) (S_deal_Key a1.Inv r2 hr3) .nil .nil (fun _ _ => rfl) (fun _ _ => rfl) rfl) rfl fun _ _ => ?_
  refine .opp (P.asg .t0) rfl ?_
  refine .nil ?_
  refine .then ?_
  refine .seq ?_
  refine .reg rfl ?_
  refine .opp (P.mov .g2) rfl ?_
  refine .opp (P.mov .g1) rfl ?_
  obtain ⟨r4, hr5, h⟩ := bnd_eq h
  refine .opg (G.call call76 (.cons .t1 (.cons .t0 .nil)) (S_escrow_State_place b00 a0 z00a r2 r4 hr5) (.cons .k1 (.cons .k1 .nil)) .nil (fun _ _ => rfl) (fun _ _ => rfl) rfl) rfl fun _ _ => ?_
  refine .opp (P.bin .t0 .k .lss) rfl ?_
  rcases pxe_eq h with ⟨e8, hr7, h⟩ | ⟨r6, hr7, h⟩
  · refine .opg (G.callx call72 (.cons .t0 (.cons .k .nil)) (S_escrow_need (decide (r4 < 0)) 32 (.er e8) hr7).er .nil .nil ?_) rfl fun _ h_ => h_.elim
    refine .thp ?_
    cases h
    exact .xer rfl
  · refine .opg (G.call call72 (.cons .t0 (.cons .k .nil)) (S_escrow_need (decide (r4 < 0)) 32 (.ok r6) hr7).ok .nil .nil (fun _ _ => rfl) (fun _ _ => rfl) rfl) rfl fun _ _ => ?_
    refine .drop .k0 ?_
    refine .nil ?_
    refine .then ?_
    obtain ⟨o59, hj11, h⟩ := bnd_eq h
    refine .cuto (γ := Unit) h (E1 := fun (_ : Unit) _ => [(4, .string r2), (3, pt b1 0), (0, pt b00 0)]) (L1 := fun (_ : Unit) _ => [blk b1 36 (api_Tx.cs a1), blk b00 45 (escrow_State.cs a0 z00a), lst 76 3 z00a (a0.Locks.map escrow_Lock.cs)]) (R1 := fun (_ : Unit) _ => []) ?_ (fun _ _ h' => ?_)
    · refine .draw 20 (.on 0 .pu (.on 1 .pu (.on 3 .pu (.on 4 .pu (.on 5 .pu (.on 2 .ld (.on 6 .ld (.on 7 .pu (.on 8 .pu (.on 9 .pu (.on 10 .pu (.on 12 .pu (.on 13 .pu (.on 14 .pu (.on 11 .ld (.on 15 .ld (.on 16 .pu (.on 17 .pu (.on 18 .pu (.on 19 .go .nl)))))))))))))))))))) follows_mixed (.thn .bodx) (by kernel_rfl) ?_
      refine .dpu rfl (.n rfl) (P.fa .g1 fa_36_6 rfl) rfl rfl ?_
      refine .dpu rfl (.n rfl) (P.fa .t0 fa_34_1 rfl) rfl rfl ?_
      refine .dpu rfl (.n rfl) (P.mov .g3) rfl rfl ?_
      refine .dpu rfl (.n rfl) (P.nilc .t0) rfl rfl ?_
      refine .dpu rfl (.n rfl) (P.fa .t0 fa_45_1 rfl) rfl rfl ?_
      refine .dld rfl (.n rfl) (V.ld (v := N a1.Var.Expiry) .t1 .k2 (.one isAgg3 rfl)) (fun _ h => h) rfl rfl ?_
      refine .dld rfl (.n rfl) (V.ld (v := N a0.Time) .t1 .k0 (.one isAgg3 rfl)) (fun _ h => h) rfl rfl ?_
      refine .dpu rfl (.n rfl) (P.bin .t1 .t0 .gtr) rfl rfl ?_
      refine .dpu rfl (.n rfl) (P.mov .t0) rfl rfl ?_
      refine .split .k0 (fun c12 => ?_) (fun c12 => ?_)
      · rw [if_pos c12] at hj11
        refine .dpu rfl (.g rfl rfl .g0 rfl) (P.fa .g2 fa_36_6 rfl) rfl rfl ?_
        refine .dpu rfl (.g rfl rfl .g1 rfl) (P.fa .t0 fa_34_1 rfl) rfl rfl ?_
        refine .dpu rfl (.g rfl rfl .g1 rfl) (P.mov .g4) rfl rfl ?_
        refine .dpu rfl (.g rfl rfl .g2 rfl) (P.nilc .t0) rfl rfl ?_
        refine .dpu rfl (.g rfl rfl .g2 rfl) (P.fa .t0 fa_45_1 rfl) rfl rfl ?_
        refine .dld rfl (.g rfl rfl .g2 rfl) (V.ld (v := N a1.Var.Expiry) .t1 .k2 (.one isAgg3 rfl)) (fun _ h => h) rfl rfl ?_
        refine .dld rfl (.g rfl rfl .g2 rfl) (V.ld (v := N a0.Time) .t1 .k0 (.one isAgg3 rfl)) (fun _ h => h) rfl rfl ?_
        refine .dpu rfl (.g rfl rfl .g2 rfl) (P.bin .t1 .t0 .sub) rfl rfl ?_
        refine .dpu rfl (.g rfl rfl .g1 rfl) (P.bin .t0 .k .leq) rfl rfl ?_
        refine .dpu rfl (.n rfl) (P.pickT .t1 .t0) rfl rfl ?_
        rcases pxe_eq hj11 with ⟨e15, hr14, hj11⟩ | ⟨r13, hr14, hj11⟩
        · refine .dgo rfl (.n rfl) (G.callx call72 (.cons .t0 (.cons .k .nil)) (S_escrow_need (decide ((IntKind.i64.wrap (a1.Var.Expiry - a0.Time)) ≤ 1024)) 34 (.er e15) hr14).er .nil .nil ?_) (.inr fun _ _ h_ _ => h_.elim) fun _ h_ => h_.elim
          obtain ⟨x16, hx17, rfl⟩ := map_lrt hj11
          obtain rfl := rt_on h
          refine .thp ?_
          cases hx17
          exact .xer rfl
        · refine .dgo rfl (.n rfl) (G.call call72 (.cons .t0 (.cons .k .nil)) (S_escrow_need (decide ((IntKind.i64.wrap (a1.Var.Expiry - a0.Time)) ≤ 1024)) 34 (.ok r13) hr14).ok .nil .nil (fun _ _ => rfl) (fun _ _ => rfl) rfl) (.inr fun _ _ _ h => h) fun _ _ => ?_
          refine .drop .k0 ?_
          refine .dnil ?_
          cases hj11
          exact .sty () () (dn_on h) (.cons Mm.m0 (.cons Mm.m1 (.cons Mm.m2 .nil))) (.of (.cons .k2 (.cons .k0 (.cons .k0 .nil)))) .nil
      · rw [if_neg (ne_true_of_eq_false c12)] at hj11
        refine .dsk rfl (.g rfl rfl .g0 rfl) rfl rfl ?_
        refine .dsk rfl (.g rfl rfl .g0 rfl) rfl rfl ?_
        refine .dsk rfl (.g rfl rfl .g0 rfl) rfl rfl ?_
        refine .dsk rfl (.g rfl rfl .g0 rfl) rfl rfl ?_
        refine .dsk rfl (.g rfl rfl .g0 rfl) rfl rfl ?_
        refine .dskl rfl (.g rfl rfl .g0 rfl) (fun _ h => h) rfl rfl ?_
        refine .dskl rfl (.g rfl rfl .g0 rfl) (fun _ h => h) rfl rfl ?_
        refine .dsk rfl (.g rfl rfl .g0 rfl) rfl rfl ?_
        refine .dsk rfl (.g rfl rfl .g0 rfl) rfl rfl ?_
        refine .dpu rfl (.n rfl) (P.pickF .t0 .k) rfl rfl ?_
        rcases pxe_eq hj11 with ⟨e20, hr19, hj11⟩ | ⟨r18, hr19, hj11⟩
        · refine .dgo rfl (.n rfl) (G.callx call72 (.cons .t0 (.cons .k .nil)) (S_escrow_need false 34 (.er e20) hr19).er .nil .nil ?_) (.inr fun _ _ h_ _ => h_.elim) fun _ h_ => h_.elim
          obtain ⟨x21, hx22, rfl⟩ := map_lrt hj11
          obtain rfl := rt_on h
          refine .thp ?_
          cases hx22
          exact .xer rfl
        · refine .dgo rfl (.n rfl) (G.call call72 (.cons .t0 (.cons .k .nil)) (S_escrow_need false 34 (.ok r18) hr19).ok .nil .nil (fun _ _ => rfl) (fun _ _ => rfl) rfl) (.inr fun _ _ _ h => h) fun _ _ => ?_
          refine .drop .k0 ?_
          refine .dnil ?_
          cases hj11
          exact .sty () () (dn_on h) (.cons Mm.m0 (.cons Mm.m1 (.cons Mm.m2 .nil))) (.of (.cons .k2 (.cons .k0 (.cons .k0 .nil)))) .nil
    · replace h := h'
      obtain ⟨o58, hj25, h⟩ := bnd_eq h
      refine .cuto (γ := Unit) h (E1 := fun (y23 : escrow_State) _ => [(4, .string r2), (3, pt b1 0), (0, pt b00 0)]) (L1 := fun (y23 : escrow_State) _ => [blk b1 36 (api_Tx.cs a1), blk b00 45 (escrow_State.cs y23 z00a), lst 76 3 z00a (y23.Locks.map escrow_Lock.cs)]) (R1 := fun (y23 : escrow_State) _ => []) ?_ (fun y23 _ h' => ?_)
      · refine .seq ?_
        refine .reg rfl ?_
        refine .opp (P.mov .g2) rfl ?_
        refine .opp (P.nilc .t0) rfl ?_
        refine .opp (P.fa .t0 fa_45_0 rfl) rfl ?_
        refine .op (V.ld (v := N a0.Side) .t0 .k1 (.one isAgg3 rfl)) rfl ?_
        refine .opp (P.bin .t0 .k .eql) rfl ?_
        refine .nil ?_
        refine .then ?_
        refine .cond .t0 (fun c26 => ?_) (fun c26 => ?_)
        · rw [if_pos c26] at hj25
          refine .seq ?_
          refine .reg rfl ?_
          refine .opp (P.fa .g1 fa_36_0 rfl) rfl ?_
          refine .op (V.ld (v := N a1.From) .t0 .k0 (.one isAgg3 rfl)) rfl ?_
          refine .opp (P.fa .g2 fa_36_5 rfl) rfl ?_
          refine .opp (P.fa .t0 fa_32_2 rfl) rfl ?_
          refine .op (V.ld (v := N a1.Inv.Router) .t0 .k0 (.one isAgg3 rfl)) rfl ?_
          refine .opp (P.bin .t1 .t0 .eql) rfl ?_
          rcases pxe_eq hj25 with ⟨e29, hr28, hj25⟩ | ⟨r27, hr28, hj25⟩
          · refine .opg (G.callx call72 (.cons .t0 (.cons .k .nil)) (S_escrow_need (decide (a1.From = a1.Inv.Router)) 37 (.er e29) hr28).er .nil .nil ?_) rfl fun _ h_ => h_.elim
            refine .thp ?_
            obtain ⟨x30, hx31, rfl⟩ := map_lrt hj25
            obtain rfl := rt_on h
            refine .thp ?_
            cases hx31
            exact .xer rfl
          · refine .opg (G.call call72 (.cons .t0 (.cons .k .nil)) (S_escrow_need (decide (a1.From = a1.Inv.Router)) 37 (.ok r27) hr28).ok .nil .nil (fun _ _ => rfl) (fun _ _ => rfl) rfl) rfl fun _ _ => ?_
            refine .drop .k0 ?_
            refine .nil ?_
            refine .then ?_
            refine .reg rfl ?_
            refine .opp (P.mov .g2) rfl ?_
            refine .opp (P.fa .g2 fa_36_0 rfl) rfl ?_
            refine .op (V.ld (v := N a1.From) .t0 .k0 (.one isAgg3 rfl)) rfl ?_
            refine .opp (P.fa .g3 fa_36_5 rfl) rfl ?_
            refine .opp (P.fa .t0 fa_32_4 rfl) rfl ?_
            refine .op (V.ld (v := N a1.Inv.Recv) .t0 .k0 (.one isAgg3 rfl)) rfl ?_
            refine .opp (P.fa .g4 fa_36_6 rfl) rfl ?_
            refine .opp (P.fa .t0 fa_34_0 rfl) rfl ?_
            refine .op (V.ld (v := Ag (api_Wide.cs a1.Var.Amount)) .t0 .k0 (.agg isAgg30 sizeOf30 rfl rfl)) rfl ?_
            rcases pxe_eq hj25 with ⟨e34, hr33, hj25⟩ | ⟨r32, hr33, hj25⟩
            · refine .opg (G.callx call73 (.cons .t3 (.cons .t2 (.cons .t1 (.cons .t0 .nil)))) (S_escrow_State_vault b00 a0 z00a a1.From a1.Inv.Recv a1.Var.Amount (.er e34) hr33).er (.cons .k1 (.cons .k1 .nil)) .nil ?_) rfl fun _ h_ => h_.elim
              obtain ⟨x35, hx36, rfl⟩ := map_lrt hj25
              obtain rfl := rt_on h
              refine .thp ?_
              cases hx36
              exact .xer rfl
            · refine .opg (G.call call73 (.cons .t3 (.cons .t2 (.cons .t1 (.cons .t0 .nil)))) (S_escrow_State_vault b00 a0 z00a a1.From a1.Inv.Recv a1.Var.Amount (.ok r32) hr33).ok (.cons .k1 (.cons .k1 .nil)) .nil (fun _ _ => rfl) (fun _ _ => rfl) rfl) rfl fun _ _ => ?_
              refine .drop .k0 ?_
              refine .nil ?_
              cases hj25
              exact .sty r32 () (dn_on h) (.cons Mm.m0 (.cons Mm.m1 (.cons Mm.m2 .nil))) (.of (.cons .k2 (.cons .k0 (.cons .k0 .nil)))) .nil
        · rw [if_neg (ne_true_of_eq_false c26)] at hj25
          refine .seq ?_
          refine .reg rfl ?_
          refine .opp (P.fa .g1 fa_36_0 rfl) rfl ?_
          refine .op (V.ld (v := N a1.From) .t0 .k0 (.one isAgg3 rfl)) rfl ?_
          refine .opp (P.fa .g2 fa_36_5 rfl) rfl ?_
          refine .opp (P.fa .t0 fa_32_0 rfl) rfl ?_
          refine .op (V.ld (v := N a1.Inv.User) .t0 .k0 (.one isAgg3 rfl)) rfl ?_
          refine .opp (P.bin .t1 .t0 .eql) rfl ?_
          rcases pxe_eq hj25 with ⟨e39, hr38, hj25⟩ | ⟨r37, hr38, hj25⟩
          · refine .opg (G.callx call72 (.cons .t0 (.cons .k .nil)) (S_escrow_need (decide (a1.From = a1.Inv.User)) 37 (.er e39) hr38).er .nil .nil ?_) rfl fun _ h_ => h_.elim
            refine .thp ?_
            obtain ⟨x40, hx41, rfl⟩ := map_lrt hj25
            obtain rfl := rt_on h
            refine .thp ?_
            cases hx41
            exact .xer rfl
          · refine .opg (G.call call72 (.cons .t0 (.cons .k .nil)) (S_escrow_need (decide (a1.From = a1.Inv.User)) 37 (.ok r37) hr38).ok .nil .nil (fun _ _ => rfl) (fun _ _ => rfl) rfl) rfl fun _ _ => ?_
            refine .drop .k0 ?_
            refine .nil ?_
            refine .then ?_
            refine .seq ?_
            refine .drawl [blk b1 36 (api_Tx.cs a1), lst 76 3 z00a (a0.Locks.map escrow_Lock.cs)] [] (Ls.of (.cons .k0 (.cons .k1 .nil))) Rs.nil 12 (.on 0 .pu (.on 1 .pu (.on 2 .pu (.on 3 .pu (.on 5 .pu (.on 6 .pu (.on 8 .pu (.on 9 .pu (.on 4 .ld (.on 7 .ld (.on 10 .ld (.on 11 .go .nl)))))))))))) follows_mixed (.thn (.thn .bodx)) (by kernel_rfl) ?_
            refine .dpu rfl (.n rfl) (P.mov .g2) rfl rfl ?_
            refine .dpu rfl (.n rfl) (P.nilc .t0) rfl rfl ?_
            refine .dpu rfl (.n rfl) (P.fa .t0 fa_45_2 rfl) rfl rfl ?_
            refine .dpu rfl (.n rfl) (P.fa .g2 fa_36_0 rfl) rfl rfl ?_
            refine .dpu rfl (.n rfl) (P.fa .g3 fa_36_5 rfl) rfl rfl ?_
            refine .dpu rfl (.n rfl) (P.fa .t0 fa_32_3 rfl) rfl rfl ?_
            refine .dpu rfl (.n rfl) (P.fa .g4 fa_36_6 rfl) rfl rfl ?_
            refine .dpu rfl (.n rfl) (P.fa .t0 fa_34_0 rfl) rfl rfl ?_
            refine .dld rfl (.n rfl) (V.ld (v := N a1.From) .t2 .k0 (.one isAgg3 rfl)) (fun _ h => (h.imp (Ls.of (.cons .k0 (.cons .k1 .nil)))).ro Rs.nil) rfl rfl ?_
            refine .dld rfl (.n rfl) (V.ld (v := N a1.Inv.Send) .t2 .k0 (.one isAgg3 rfl)) (fun _ h => (h.imp (Ls.of (.cons .k0 (.cons .k1 .nil)))).ro Rs.nil) rfl rfl ?_
            refine .dld rfl (.n rfl) (V.ld (v := Ag (api_Wide.cs a1.Var.Amount)) .t2 .k0 (.agg isAgg30 sizeOf30 rfl rfl)) (fun _ h => (h.imp (Ls.of (.cons .k0 (.cons .k1 .nil)))).ro Rs.nil) rfl rfl ?_
            refine .conseq .k1 (q := blk b00 45 ((List.take 2 (escrow_State.cs a0 z00a)) ++ (purse_Book.cs a0.Purse) ++ (List.drop (2 + 64) (escrow_State.cs a0 z00a)))) (fun _ h_ => by exact h_) ?_
            rcases pxe_eq hj25 with ⟨e44, hr43, hj25⟩ | ⟨r42, hr43, hj25⟩
            · refine .dgo rfl (.n rfl) (G.callx call69 (.cons .t3 (.cons .t2 (.cons .t1 (.cons .t0 .nil)))) (S_escrow_take_int b00 2 45 (List.take 2 (escrow_State.cs a0 z00a)) (List.drop (2 + 64) (escrow_State.cs a0 z00a)) (by rfl) a0.Purse a1.From a1.Inv.Send a1.Var.Amount (.er e44) hr43).er (.cons .k0 .nil) .nil ?_) (.inr fun _ _ h_ _ => h_.elim) fun _ h_ => h_.elim
              refine .thp ?_
              obtain ⟨x45, hx46, rfl⟩ := map_lrt hj25
              obtain rfl := rt_on h
              refine .thp ?_
              cases hx46
              exact .xer rfl
            · refine .dgo rfl (.n rfl) (G.call call69 (.cons .t3 (.cons .t2 (.cons .t1 (.cons .t0 .nil)))) (S_escrow_take_int b00 2 45 (List.take 2 (escrow_State.cs a0 z00a)) (List.drop (2 + 64) (escrow_State.cs a0 z00a)) (by rfl) a0.Purse a1.From a1.Inv.Send a1.Var.Amount (.ok r42) hr43).ok (.cons .k0 .nil) .nil (fun _ _ => rfl) (fun _ _ => rfl) rfl) (.inr fun _ _ _ h => (h.imp (Ls.of (.cons .k1 (.cons .k1 .nil)))).ro Rs.nil) fun _ _ => ?_
              refine .conseq .k0 (q := blk b00 45 (escrow_State.cs ⟨a0.Side, a0.Time, r42, a0.Vault, a0.Nonces, a0.Held, a0.Burnt, a0.Locks⟩ z00a)) (fun _ h_ => by exact h_) ?_
              refine .drop .k0 ?_
              refine .dnil ?_
              refine .then ?_
              refine .reg rfl ?_
              refine .opp (P.mov .g2) rfl ?_
              refine .opp (P.fa .g2 fa_36_5 rfl) rfl ?_
              refine .opp (P.fa .t0 fa_32_3 rfl) rfl ?_
              refine .op (V.ld (v := N a1.Inv.Send) .t0 .k1 (.one isAgg3 rfl)) rfl ?_
              refine .opp (P.fa .g3 fa_36_6 rfl) rfl ?_
              refine .opp (P.fa .t0 fa_34_0 rfl) rfl ?_
              refine .op (V.ld (v := Ag (api_Wide.cs a1.Var.Amount)) .t0 .k1 (.agg isAgg30 sizeOf30 rfl rfl)) rfl ?_
              rcases pxe_eq hj25 with ⟨e49, hr48, hj25⟩ | ⟨r47, hr48, hj25⟩
              · refine .opg (G.callx call71 (.cons .t2 (.cons .t1 (.cons .t0 .nil))) (S_escrow_State_hold b00 (⟨a0.Side, a0.Time, r42, a0.Vault, a0.Nonces, a0.Held, a0.Burnt, a0.Locks⟩ : escrow_State) z00a a1.Inv.Send a1.Var.Amount (.er e49) hr48).er (.cons .k0 (.cons .k1 .nil)) .nil ?_) rfl fun _ h_ => h_.elim
                obtain ⟨x50, hx51, rfl⟩ := map_lrt hj25
                obtain rfl := rt_on h
                refine .thp ?_
                cases hx51
                exact .xer rfl
              · refine .opg (G.call call71 (.cons .t2 (.cons .t1 (.cons .t0 .nil))) (S_escrow_State_hold b00 (⟨a0.Side, a0.Time, r42, a0.Vault, a0.Nonces, a0.Held, a0.Burnt, a0.Locks⟩ : escrow_State) z00a a1.Inv.Send a1.Var.Amount (.ok r47) hr48).ok (.cons .k0 (.cons .k1 .nil)) .nil (fun _ _ => rfl) (fun _ _ => rfl) rfl) rfl fun _ _ => ?_
                refine .drop .k0 ?_
                refine .nil ?_
                cases hj25
                exact .sty r47 () (dn_on h) (.cons Mm.m0 (.cons Mm.m1 (.cons Mm.m2 .nil))) (.of (.cons .k2 (.cons .k0 (.cons .k0 .nil)))) .nil
      · replace h := h'
        obtain ⟨r52, hr53, h⟩ := bnd_eq h
        obtain ⟨hb56, h⟩ := grd_eq h
        refine .dcut (γ := Value × Value) (φ := fun _ => True) (E1 := fun x_ => []) (L1 := fun x_ => [blk b00 45 (escrow_State.cs ⟨y23.Side, y23.Time, y23.Purse, y23.Vault, y23.Nonces, y23.Held, y23.Burnt, []⟩ x_.2), lst 76 3 x_.2 ((y23.Locks ++ ([⟨r2, r52, 1⟩] : List escrow_Lock)).map escrow_Lock.cs), lst 76 3 x_.1 [(escrow_Lock.cs ⟨r2, r52, 1⟩)], blk b1 36 (api_Tx.cs a1)]) (R1 := fun x_ => []) ?_ (fun x_ _ => ?_)
        · refine .draw 10 (.on 0 .pu (.on 1 .pu (.on 2 .pu (.on 3 .pu (.on 5 .pu (.on 6 .pu (.on 8 .pu (.on 7 .ld (.on 9 .ld (.fk 4 10 (.on 10 .go (.on 11 .pu (.on 12 .go (.on 13 .go (.on 14 .pu (.on 15 .pu (.on 16 .go .nl))))))) (.on 11 .pu (.fk 4 12 (.on 12 .go (.on 13 .go (.on 14 .pu (.on 15 .pu (.on 16 .go .nl))))) (.on 4 .go (.on 13 .go (.on 14 .pu (.on 15 .pu (.on 16 .go .nl))))))))))))))))) follows_mixed (.thn .bodx) (by kernel_rfl) ?_
          refine .dpu rfl (.n rfl) (P.mov .g2) rfl rfl ?_
          refine .dpu rfl (.n rfl) (P.mov .t3) rfl rfl ?_
          refine .dpu rfl (.n rfl) (P.nilc .t0) rfl rfl ?_
          refine .dpu rfl (.n rfl) (P.fa .t0 fa_45_7 rfl) rfl rfl ?_
          refine .dpu rfl (.n rfl) (P.mov .t2) rfl rfl ?_
          refine .dpu rfl (.n rfl) (P.fa .g3 fa_36_5 rfl) rfl rfl ?_
          refine .dpu rfl (.n rfl) (P.fa .t4 fa_36_6 rfl) rfl rfl ?_
          refine .dld rfl (.n rfl) (V.ld (v := Ag (api_Inv.cs a1.Inv)) .t1 .k0 (.agg isAgg32 sizeOf32 rfl rfl)) (fun _ h => h) rfl rfl ?_
          refine .dld rfl (.n rfl) (V.ld (v := Ag (api_Var.cs a1.Var)) .t1 .k0 (.agg isAgg34 sizeOf34 rfl rfl)) (fun _ h => h) rfl rfl ?_
          refine .dfk ?_ ?_
          · refine .dgo rfl (.n rfl) (OpV.g (V.ld (v := z00a) .t3 .k1 (.one isAgg43 rfl)) rfl) (.inr fun _ _ _ h => h) fun _ _ => ?_
            refine .dgo rfl (.n rfl) (G.call call77 (.cons .t2 (.cons .t1 .nil)) (S_deal_Digest a1.Inv a1.Var r52 hr53) .nil .nil (fun _ _ => rfl) (fun _ _ => rfl) rfl) (.inl rfl) fun _ _ => ?_
            refine .dpu rfl (.n rfl) (P.bld (v := Ag (escrow_Lock.cs ⟨r2, r52, 1⟩)) (.cons .t2 (.cons .t0 (.cons .k .nil))) (bld_run zeroValue76 runUnderlying76 pl_76 (by kernel_rfl))) rfl rfl ?_
            refine .dgo rfl (.n rfl) (G.bsl (cs := (escrow_Lock.cs ⟨r2, r52, 1⟩)) .t0 runUnderlying43 sizeOf76 zeroValue76 rfl rfl rfl rfl rfl) (.inl rfl) fun u54 _ => ?_
            refine .dgo rfl (.n rfl) (G.app (by_ := 40) .t1 .t0 .k3 (.inr (.inr ⟨_, Mm.m0⟩)) runUnderlying43 runUnderlying43 sizeOf76 typeInfo76 rfl rfl zeroValue76 rfl rfl (by simpa using hb56) rfl) (.inl rfl) fun u55 _ => ?_
            refine .conseq .k0 (q := lst 76 3 u55 ((y23.Locks ++ ([⟨r2, r52, 1⟩] : List escrow_Lock)).map escrow_Lock.cs)) (fun _ hh => by simpa [List.map_append] using hh) ?_
            refine .dpu rfl (.n rfl) (P.nilc .t1) rfl rfl ?_
            refine .dpu rfl (.n rfl) (P.fa .t0 fa_45_7 rfl) rfl rfl ?_
            refine .onel .k0 fun ho57 => ?_
            refine .dgo rfl (.n rfl) (G.str .t1 .t0 .k3 (.mk1 (cs' := (escrow_State.cs ⟨y23.Side, y23.Time, y23.Purse, y23.Vault, y23.Nonces, y23.Held, y23.Burnt, []⟩ u55)) sizeOf43 rfl ho57 rfl rfl)) (.inl rfl) fun _ _ => ?_
            refine .dnil ?_
            exact .dst ⟨u54, u55⟩ trivial .nil (Ls.of (.cons .k0 (.cons .k0 (.cons .k0 (.cons .k0 .nil))))) .nil
          · refine .dgo rfl (.n rfl) (G.call call77 (.cons .t1 (.cons .t0 .nil)) (S_deal_Digest a1.Inv a1.Var r52 hr53) .nil .nil (fun _ _ => rfl) (fun _ _ => rfl) rfl) (.inl rfl) fun _ _ => ?_
            refine .dpu rfl (.n rfl) (P.bld (v := Ag (escrow_Lock.cs ⟨r2, r52, 1⟩)) (.cons .t1 (.cons .t0 (.cons .k .nil))) (bld_run zeroValue76 runUnderlying76 pl_76 (by kernel_rfl))) rfl rfl ?_
            refine .dfk ?_ ?_
            · refine .dgo rfl (.n rfl) (OpV.g (V.ld (v := z00a) .t1 .k1 (.one isAgg43 rfl)) rfl) (.inl rfl) fun _ _ => ?_
              refine .dgo rfl (.n rfl) (G.bsl (cs := (escrow_Lock.cs ⟨r2, r52, 1⟩)) .t1 runUnderlying43 sizeOf76 zeroValue76 rfl rfl rfl rfl rfl) (.inl rfl) fun u54 _ => ?_
              refine .dgo rfl (.n rfl) (G.app (by_ := 40) .t1 .t0 .k3 (.inr (.inr ⟨_, Mm.m0⟩)) runUnderlying43 runUnderlying43 sizeOf76 typeInfo76 rfl rfl zeroValue76 rfl rfl (by simpa using hb56) rfl) (.inl rfl) fun u55 _ => ?_
              refine .conseq .k0 (q := lst 76 3 u55 ((y23.Locks ++ ([⟨r2, r52, 1⟩] : List escrow_Lock)).map escrow_Lock.cs)) (fun _ hh => by simpa [List.map_append] using hh) ?_
              refine .dpu rfl (.n rfl) (P.nilc .t1) rfl rfl ?_
              refine .dpu rfl (.n rfl) (P.fa .t0 fa_45_7 rfl) rfl rfl ?_
              refine .onel .k0 fun ho57 => ?_
              refine .dgo rfl (.n rfl) (G.str .t1 .t0 .k3 (.mk1 (cs' := (escrow_State.cs ⟨y23.Side, y23.Time, y23.Purse, y23.Vault, y23.Nonces, y23.Held, y23.Burnt, []⟩ u55)) sizeOf43 rfl ho57 rfl rfl)) (.inl rfl) fun _ _ => ?_
              refine .dnil ?_
              exact .dst ⟨u54, u55⟩ trivial .nil (Ls.of (.cons .k0 (.cons .k0 (.cons .k0 (.cons .k0 .nil))))) .nil
            · refine .dgo rfl (.n rfl) (G.bsl (cs := (escrow_Lock.cs ⟨r2, r52, 1⟩)) .t0 runUnderlying43 sizeOf76 zeroValue76 rfl rfl rfl rfl rfl) (.inl rfl) fun u54 _ => ?_
              refine .dgo rfl (.n rfl) (OpV.g (V.ld (v := z00a) .t1 .k2 (.one isAgg43 rfl)) rfl) (.inl rfl) fun _ _ => ?_
              refine .dgo rfl (.n rfl) (G.app (by_ := 40) .t0 .t0 .k3 (.inr (.inr ⟨_, Mm.m0⟩)) runUnderlying43 runUnderlying43 sizeOf76 typeInfo76 rfl rfl zeroValue76 rfl rfl (by simpa using hb56) rfl) (.inl rfl) fun u55 _ => ?_
              refine .conseq .k0 (q := lst 76 3 u55 ((y23.Locks ++ ([⟨r2, r52, 1⟩] : List escrow_Lock)).map escrow_Lock.cs)) (fun _ hh => by simpa [List.map_append] using hh) ?_
              refine .dpu rfl (.n rfl) (P.nilc .t1) rfl rfl ?_
              refine .dpu rfl (.n rfl) (P.fa .t0 fa_45_7 rfl) rfl rfl ?_
              refine .onel .k0 fun ho57 => ?_
              refine .dgo rfl (.n rfl) (G.str .t1 .t0 .k3 (.mk1 (cs' := (escrow_State.cs ⟨y23.Side, y23.Time, y23.Purse, y23.Vault, y23.Nonces, y23.Held, y23.Burnt, []⟩ u55)) sizeOf43 rfl ho57 rfl rfl)) (.inl rfl) fun _ _ => ?_
              refine .dnil ?_
              exact .dst ⟨u54, u55⟩ trivial .nil (Ls.of (.cons .k0 (.cons .k0 (.cons .k0 (.cons .k0 .nil))))) .nil
        · obtain ⟨u54, u55⟩ := x_
          cases h
          refine .xokn ?_
          exact .finwn u55 (.r0 rfl) trivial (Ls.of (.cons .k0 (.cons .k0 .nil))) .nil
attribute [irreducible] escrow_State_prepare
noncomputable def escrow_State_lock (a0 : escrow_State) (a1 : api_Tx) : Option (Px (Nat × escrow_Lock)) :=
  Option.bind (deal_Key a1.Inv) fun r2 => Option.bind (escrow_State_place a0 r2) fun r4 => Option.bind (if (decide (r4 ≥ 0)) = true then (Option.bind (at_ a0.Locks r4) fun (x13 : escrow_Lock) => pxe (escrow_need (decide (x13.Status = 1)) 32) (fun e19 => Option.map Lo.rt (some (.er e19))) fun r17 => some (Lo.dn ())) else (pxe (escrow_need false 32) (fun e24 => Option.map Lo.rt (some (.er e24))) fun r22 => some (Lo.dn ()))) fun o46 => Lo.on o46 fun (_ : Unit) => Option.bind (at_ a0.Locks r4) fun (x30 : escrow_Lock) => Option.bind (deal_Digest a1.Inv a1.Var) fun r34 => pxe (escrow_need (decide (x30.Digest = r34)) 33) (fun e38 => some (.er e38)) fun r36 => Option.bind (at_ a0.Locks r4) fun (x42 : escrow_Lock) => some ((.ok (((r4).toNat, x42))))
set_option maxRecDepth 20000 in
set_option maxHeartbeats 1000000 in
theorem S_escrow_State_lock (b00 : Nat) (a0 : escrow_State) (z00a : Value) (a1 : api_Tx) (r : Px (Nat × escrow_Lock)) (h : escrow_State_lock a0 a1 = some r) :
    SpecX Tryz.prog 78 [pt b00 0, Ag (api_Tx.cs a1)] [blk b00 45 (escrow_State.cs a0 z00a), lst 76 3 z00a (a0.Locks.map escrow_Lock.cs)] [] (fun (r : Nat × escrow_Lock) (z : Nat × Nat) => IsIx z00a 3 (a0.Locks.map escrow_Lock.cs).length r.1 z.1 z.2 ∧ a0.Locks[r.1]? = some r.2) mustCh r (fun r z => pt z.1 z.2) (fun r z M => blk b00 45 (escrow_State.cs a0 z00a) :: lst 76 3 z00a (a0.Locks.map escrow_Lock.cs) ::  M) (fun r z M =>  M) := by
  refine .of func78 rfl ntmps78 rfl fun w0 D0 G0 => ?_
  unfold escrow_State_lock at h
  refine .seq ?_
  refine .reg rfl ?_
  refine .opx (X.box (cs := (api_Tx.cs a1)) .t1 rfl) rfl fun b1 => ?_
  refine .op0 (OpP.toV (P.asg .k)) rfl ?_
  refine .nil ?_
  refine .then ?_
  refine .seq ?_
  refine .reg rfl ?_
  refine .opp (P.mov .g1) rfl ?_
  refine .opp (P.fa .g1 fa_36_5 rfl) rfl ?_
  refine .op (V.ld (v := Ag (api_Inv.cs a1.Inv)) .t0 .k0 (.agg isAgg32 sizeOf32 rfl rfl)) rfl ?_
  obtain ⟨r2, hr3, h⟩ := bnd_eq h
  refine .opg (G.call call75 (.cons .t0 .nil) (S_deal_Key a1.Inv r2 hr3) .nil .nil (fun _ _ => rfl) (fun _ _ => rfl) rfl) rfl fun _ _ => ?_
  obtain ⟨r4, hr5, h⟩ := bnd_eq h
  refine .opg (G.call call76 (.cons .t1 (.cons .t0 .nil)) (S_escrow_State_place b00 a0 z00a r2 r4 hr5) (.cons .k1 (.cons .k1 .nil)) .nil (fun _ _ => rfl) (fun _ _ => rfl) rfl) rfl fun _ _ => ?_
  refine .opp (P.asg .t0) rfl ?_
  refine .nil ?_
  refine .then ?_
  obtain ⟨o46, hj8, h⟩ := bnd_eq h
  refine .cuto (γ := Unit) h (E1 := fun (_ : Unit) _ => [(5, N r4), (3, pt b1 0), (0, pt b00 0)]) (L1 := fun (_ : Unit) _ => [blk b1 36 (api_Tx.cs a1), blk b00 45 (escrow_State.cs a0 z00a), lst 76 3 z00a (a0.Locks.map escrow_Lock.cs)]) (R1 := fun (_ : Unit) _ => []) ?_ (fun _ _ h' => ?_)
  · refine .reg rfl ?_
    refine .opp (P.mov .g0) rfl ?_
    refine .opp (P.bin .t0 .k .geq) rfl ?_
    refine .opp (P.mov .t0) rfl ?_
    refine .split .k0 (fun c9 => ?_) (fun c9 => ?_)
    · rw [if_pos c9] at hj8
      refine .gyes rfl .g0 ?_
      refine .opp (P.mov .g3) rfl ?_
      refine .gyes rfl .g1 ?_
      refine .opp (P.nilc .t0) rfl ?_
      refine .gyes rfl .g1 ?_
      refine .opp (P.fa .t0 fa_45_7 rfl) rfl ?_
      refine .gyes rfl .g1 ?_
      refine .op (V.ld (v := z00a) .t0 .k0 (.one isAgg43 rfl)) rfl ?_
      refine .gyes rfl .g1 ?_
      refine .opp (P.mov .g2) rfl ?_
      refine .gyes rfl .g2 ?_
      obtain ⟨x13, hx14, hj8⟩ := bnd_eq hj8
      obtain ⟨i15, hi16, hx14⟩ := at_eq hx14
      have hi16_ : (r4).toNat = i15 := by rw [hi16]; rfl
      refine .ixql .k1 (map_get hx14) fun p10 q11 hq12 => ?_
      refine .opp (P.ixi (i := i15) .t0 hi16 .t0 hq12 runUnderlying43 sizeOf76) rfl ?_
      refine .gyes rfl .g1 ?_
      refine .opp (P.fa (off' := q11 + 2) .t0 fa_76_2 rfl) rfl ?_
      refine .gyes rfl .g1 ?_
      refine .op (V.ldxl (u := N x13.Status) (off := q11) (k := 2) .t0 hq12 .k1 (map_get hx14) (.one isAgg3 rfl)) rfl ?_
      refine .gyes rfl .g1 ?_
      refine .opp (P.bin .t0 .k .eql) rfl ?_
      refine .opp (P.pickT .t1 .t0) rfl ?_
      rcases pxe_eq hj8 with ⟨e19, hr18, hj8⟩ | ⟨r17, hr18, hj8⟩
      · refine .opg (G.callx call72 (.cons .t0 (.cons .k .nil)) (S_escrow_need (decide (x13.Status = 1)) 32 (.er e19) hr18).er .nil .nil ?_) rfl fun _ h_ => h_.elim
        obtain ⟨x20, hx21, rfl⟩ := map_lrt hj8
        obtain rfl := rt_on h
        refine .thp ?_
        cases hx21
        exact .xer rfl
      · refine .opg (G.call call72 (.cons .t0 (.cons .k .nil)) (S_escrow_need (decide (x13.Status = 1)) 32 (.ok r17) hr18).ok .nil .nil (fun _ _ => rfl) (fun _ _ => rfl) rfl) rfl fun _ _ => ?_
        refine .drop .k0 ?_
        refine .nil ?_
        cases hj8
        exact .sty () () (dn_on h) (.cons Mm.m0 (.cons Mm.m1 (.cons Mm.m2 .nil))) (.of (.cons .k2 (.cons .k0 (.cons .k0 .nil)))) .nil
    · rw [if_neg (ne_true_of_eq_false c9)] at hj8
      refine .gno rfl .g0 rfl rfl ?_
      refine .gno rfl .g0 rfl rfl ?_
      refine .gno rfl .g0 rfl rfl ?_
      refine .gno rfl .g0 rfl rfl ?_
      refine .gno rfl .g0 rfl rfl ?_
      refine .gno rfl .g0 rfl rfl ?_
      refine .gno rfl .g0 rfl rfl ?_
      refine .gno rfl .g0 rfl rfl ?_
      refine .gno rfl .g0 rfl rfl ?_
      refine .opp (P.pickF .t0 .k) rfl ?_
      rcases pxe_eq hj8 with ⟨e24, hr23, hj8⟩ | ⟨r22, hr23, hj8⟩
      · refine .opg (G.callx call72 (.cons .t0 (.cons .k .nil)) (S_escrow_need false 32 (.er e24) hr23).er .nil .nil ?_) rfl fun _ h_ => h_.elim
        obtain ⟨x25, hx26, rfl⟩ := map_lrt hj8
        obtain rfl := rt_on h
        refine .thp ?_
        cases hx26
        exact .xer rfl
      · refine .opg (G.call call72 (.cons .t0 (.cons .k .nil)) (S_escrow_need false 32 (.ok r22) hr23).ok .nil .nil (fun _ _ => rfl) (fun _ _ => rfl) rfl) rfl fun _ _ => ?_
        refine .drop .k0 ?_
        refine .nil ?_
        cases hj8
        exact .sty () () (dn_on h) (.cons Mm.m0 (.cons Mm.m1 (.cons Mm.m2 .nil))) (.of (.cons .k2 (.cons .k0 (.cons .k0 .nil)))) .nil
  · replace h := h'
    refine .seq ?_
    refine .draw 15 (.on 0 .pu (.on 1 .pu (.on 2 .pu (.on 4 .pu (.on 8 .pu (.on 10 .pu (.on 3 .ld (.on 5 .pu (.on 6 .pu (.on 7 .ld (.on 9 .ld (.on 11 .ld (.on 12 .go (.on 13 .pu (.on 14 .go .nl))))))))))))))) follows_mixed (.thn .bodx) (by kernel_rfl) ?_
    refine .dpu rfl (.n rfl) (P.mov .g2) rfl rfl ?_
    refine .dpu rfl (.n rfl) (P.nilc .t0) rfl rfl ?_
    refine .dpu rfl (.n rfl) (P.fa .t0 fa_45_7 rfl) rfl rfl ?_
    refine .dpu rfl (.n rfl) (P.mov .g1) rfl rfl ?_
    refine .dpu rfl (.n rfl) (P.fa .g3 fa_36_5 rfl) rfl rfl ?_
    refine .dpu rfl (.n rfl) (P.fa .t4 fa_36_6 rfl) rfl rfl ?_
    refine .dld rfl (.n rfl) (V.ld (v := z00a) .t3 .k1 (.one isAgg43 rfl)) (fun _ h => h) rfl rfl ?_
    obtain ⟨x30, hx31, h⟩ := bnd_eq h
    obtain ⟨i32, hi33, hx31⟩ := at_eq hx31
    have hi33_ : (r4).toNat = i32 := by rw [hi33]; rfl
    refine .ixql .k2 (map_get hx31) fun p27 q28 hq29 => ?_
    refine .dpu rfl (.n rfl) (P.ixi (i := i32) .t3 hi33 .t0 hq29 runUnderlying43 sizeOf76) rfl rfl ?_
    refine .dpu rfl (.n rfl) (P.fa (off' := q28 + 1) .t0 fa_76_1 rfl) rfl rfl ?_
    refine .dld rfl (.n rfl) (V.ldxl (u := .string x30.Digest) (off := q28) (k := 1) .t0 hq29 .k2 (map_get hx31) (.one isAgg9 rfl)) (fun _ h => h) rfl rfl ?_
    refine .dld rfl (.n rfl) (V.ld (v := Ag (api_Inv.cs a1.Inv)) .t2 .k0 (.agg isAgg32 sizeOf32 rfl rfl)) (fun _ h => h) rfl rfl ?_
    refine .dld rfl (.n rfl) (V.ld (v := Ag (api_Var.cs a1.Var)) .t2 .k0 (.agg isAgg34 sizeOf34 rfl rfl)) (fun _ h => h) rfl rfl ?_
    obtain ⟨r34, hr35, h⟩ := bnd_eq h
    refine .dgo rfl (.n rfl) (G.call call77 (.cons .t1 (.cons .t0 .nil)) (S_deal_Digest a1.Inv a1.Var r34 hr35) .nil .nil (fun _ _ => rfl) (fun _ _ => rfl) rfl) (.inr fun _ _ _ h => h) fun _ _ => ?_
    refine .dpu rfl (.n rfl) (P.bin .t1 .t0 .str_eql) rfl rfl ?_
    rcases pxe_eq h with ⟨e38, hr37, h⟩ | ⟨r36, hr37, h⟩
    · refine .dgo rfl (.n rfl) (G.callx call72 (.cons .t0 (.cons .k .nil)) (S_escrow_need (decide (x30.Digest = r34)) 33 (.er e38) hr37).er .nil .nil ?_) (.inr fun _ _ h_ _ => h_.elim) fun _ h_ => h_.elim
      refine .thp ?_
      cases h
      exact .xer rfl
    · refine .dgo rfl (.n rfl) (G.call call72 (.cons .t0 (.cons .k .nil)) (S_escrow_need (decide (x30.Digest = r34)) 33 (.ok r36) hr37).ok .nil .nil (fun _ _ => rfl) (fun _ _ => rfl) rfl) (.inr fun _ _ _ h => h) fun _ _ => ?_
      refine .drop .k0 ?_
      refine .dnil ?_
      refine .then ?_
      refine .seq ?_
      refine .reg rfl ?_
      refine .opp (P.mov .t1) rfl ?_
      refine .opp (P.nilc .t0) rfl ?_
      refine .opp (P.fa .t0 fa_45_7 rfl) rfl ?_
      refine .op (V.ld (v := z00a) .t0 .k1 (.one isAgg43 rfl)) rfl ?_
      refine .opp (P.mov .t1) rfl ?_
      obtain ⟨x42, hx43, h⟩ := bnd_eq h
      obtain ⟨i44, hi45, hx43⟩ := at_eq hx43
      have hi45_ : (r4).toNat = i44 := by rw [hi45]; rfl
      refine .ixql .k2 (map_get hx43) fun p39 q40 hq41 => ?_
      refine .opp (P.ixi (i := i44) .t0 hi45 .t0 hq41 runUnderlying43 sizeOf76) rfl ?_
      refine .opp (P.asg .t0) rfl ?_
      refine .nil ?_
      refine .then ?_
      refine .ret ?_
      cases h
      refine .xok ?_
      exact .finw ⟨p39, q40⟩ (.r1 rfl (.tmp .g0)) ⟨by rw [hi45_]; exact hq41, by rw [hi45_]; exact hx43⟩ (Ls.of (.cons .k1 (.cons .k1 .nil))) .nil
attribute [irreducible] escrow_State_lock
noncomputable def deal_Payload (a0 : Int) (a1 : ByteArray) (a2 : api_Wide) : Option ((List UInt8)) :=
  thn (if (!(deal_in a0 1 2)) = true then true else (decide ((a1.size : Int) ≠ 32))) fun (y2 : Bool) => if y2 = true then (some ([] : List UInt8)) else (Option.bind (field_Out_Text field_New ⟨#[97, 99, 116]⟩) fun r9 => Option.bind (field_Out_Num r9 a0) fun r12 => Option.bind (field_Out_Text r12 a1) fun r15 => Option.bind (field_Out_Wide r15 a2) fun r18 => Option.bind (field_Out_Done r18) fun r21 => some r21.1)
set_option maxRecDepth 20000 in
set_option maxHeartbeats 1000000 in
theorem S_deal_Payload (a0 : Int) (a1 : ByteArray) (a2 : api_Wide) (r : (List UInt8)) (h : deal_Payload a0 a1 a2 = some r) :
    SpecF Tryz.prog 89 [N a0, .string a1, Ag (api_Wide.cs a2)] [] [] (fun z : Value => True) (fun z => z) (fun z M => lst 5 1 z (r.map (fun x => [B8 x])) ::  M) (fun z M =>  M) := by
  refine .of func89 rfl ntmps89 rfl fun w0 D0 G0 => ?_
  unfold deal_Payload at h
  refine .seq ?_
  refine .reg rfl ?_
  refine .opx (X.box (cs := (api_Wide.cs a2)) .t2 rfl) rfl fun b1 => ?_
  refine .op0 (OpP.toV (P.asg .k)) rfl ?_
  refine .nil ?_
  refine .then ?_
  refine .seq ?_
  obtain ⟨y2, hj4, h⟩ := thn_eq h
  refine .cutx (γ := Unit) (E1 := fun z3 => [(17, Bo y2), (5, pt b1 0), (0, N a0), (1, .string a1)]) (L1 := fun z3 => [blk b1 30 (api_Wide.cs a2)]) (R1 := fun z3 => []) ?_ (fun z3 => ?_)
  · clear h
    refine .reg rfl ?_
    refine .opp (P.mov .g1) rfl ?_
    refine .opg (G.call call54 (.cons .t0 (.cons .k (.cons .k .nil))) (S_deal_in a0 1 2 _ rfl) .nil .nil (fun _ _ => rfl) (fun _ _ => rfl) rfl) rfl fun _ _ => ?_
    refine .opp (P.not .t0) rfl ?_
    refine .opp (P.mov .t0) rfl ?_
    refine .split .k0 (fun c5 => ?_) (fun c5 => ?_)
    · rw [if_pos c5] at hj4
      refine .gno rfl .g0 rfl rfl ?_
      refine .gno rfl .g0 rfl rfl ?_
      refine .gno rfl .g0 rfl rfl ?_
      refine .opp (P.pickT .t0 .k) rfl ?_
      refine .nil ?_
      subst hj4
      exact .stj () (.cons Mm.m0 (.cons Mm.m1 (.cons Mm.m2 (.cons Mm.m3 .nil)))) (.of (.cons .k0 .nil)) .nil
    · rw [if_neg (ne_true_of_eq_false c5)] at hj4
      refine .gyes rfl .g0 ?_
      refine .opp (P.mov .g3) rfl ?_
      refine .gyes rfl .g1 ?_
      refine .opp (P.lens .t0 runUnderlying9) rfl ?_
      refine .gyes rfl .g1 ?_
      refine .opp (P.bin .t0 .k .neq) rfl ?_
      refine .opp (P.pickF .t1 .t0) rfl ?_
      refine .nil ?_
      subst hj4
      exact .stj () (.cons Mm.m0 (.cons Mm.m1 (.cons Mm.m2 (.cons Mm.m3 .nil)))) (.of (.cons .k0 .nil)) .nil
  · clear hj4
    refine .cond .t0 (fun c6 => ?_) (fun c6 => ?_)
    · rw [if_pos c6] at h
      refine .seq ?_
      refine .reg rfl ?_
      refine .opp (P.asg .k) rfl ?_
      refine .nil ?_
      refine .then ?_
      refine .ret ?_
      refine .thr ?_
      cases h
      refine .lnil 5 1 ?_
      exact .finw nilSl (.r1 rfl (.tmp .g0)) trivial (Ls.of (.cons .k0 .nil)) .nil
    · rw [if_neg (ne_true_of_eq_false c6)] at h
      refine .skip ?_
      refine .then ?_
      refine .seq ?_
      refine .reg rfl ?_
      refine .opg (G.call call80 .nil (S_field_New  _ rfl) .nil .nil (fun _ _ => rfl) (fun _ _ => rfl) rfl) rfl fun ⟨b7, u8⟩ _ => ?_
      refine .opp (P.asg .t0) rfl ?_
      refine .nil ?_
      refine .then ?_
      refine .seq ?_
      refine .reg rfl ?_
      refine .opp (P.mov .g0) rfl ?_
      obtain ⟨r9, hr10, h⟩ := bnd_eq h
      refine .opg (G.call call86 (.cons .t0 (.cons .k .nil)) (S_field_Out_Text b7 field_New u8 ⟨#[97, 99, 116]⟩ r9 hr10) (.cons .k0 (.cons .k0 .nil)) .nil (fun _ _ => rfl) (fun _ _ => rfl) rfl) rfl fun u11 _ => ?_
      refine .drop .k0 ?_
      refine .nil ?_
      refine .then ?_
      refine .seq ?_
      refine .reg rfl ?_
      refine .opp (P.mov .g0) rfl ?_
      refine .opp (P.mov .t3) rfl ?_
      obtain ⟨r12, hr13, h⟩ := bnd_eq h
      refine .opg (G.call call90 (.cons .t1 (.cons .t0 .nil)) (S_field_Out_Num b7 r9 u11 a0 r12 hr13) (.cons .k0 (.cons .k0 .nil)) .nil (fun _ _ => rfl) (fun _ _ => rfl) rfl) rfl fun u14 _ => ?_
      refine .drop .k0 ?_
      refine .nil ?_
      refine .then ?_
      refine .seq ?_
      refine .reg rfl ?_
      refine .opp (P.mov .g0) rfl ?_
      refine .opp (P.mov .t3) rfl ?_
      obtain ⟨r15, hr16, h⟩ := bnd_eq h
      refine .opg (G.call call86 (.cons .t1 (.cons .t0 .nil)) (S_field_Out_Text b7 r12 u14 a1 r15 hr16) (.cons .k0 (.cons .k0 .nil)) .nil (fun _ _ => rfl) (fun _ _ => rfl) rfl) rfl fun u17 _ => ?_
      refine .drop .k0 ?_
      refine .nil ?_
      refine .then ?_
      refine .seq ?_
      refine .reg rfl ?_
      refine .opp (P.mov .g0) rfl ?_
      refine .op (V.ld (v := Ag (api_Wide.cs a2)) .t2 .k2 (.agg isAgg30 sizeOf30 rfl rfl)) rfl ?_
      obtain ⟨r18, hr19, h⟩ := bnd_eq h
      refine .opg (G.call call95 (.cons .t1 (.cons .t0 .nil)) (S_field_Out_Wide b7 r15 u17 a2 r18 hr19) (.cons .k0 (.cons .k0 .nil)) .nil (fun _ _ => rfl) (fun _ _ => rfl) rfl) rfl fun u20 _ => ?_
      refine .drop .k0 ?_
      refine .nil ?_
      refine .then ?_
      refine .seq ?_
      refine .reg rfl ?_
      refine .opp (P.mov .t0) rfl ?_
      obtain ⟨r21, hr22, h⟩ := bnd_eq h
      refine .opg (G.call call82 (.cons .t0 .nil) (S_field_Out_Done b7 r18 u20 r21 hr22) (.cons .k0 (.cons .k0 .nil)) .nil (fun _ _ => rfl) (fun _ _ => rfl) rfl) rfl fun u23 _ => ?_
      refine .opp (P.mov .t0) rfl ?_
      refine .opp (P.ext (v := u23) .g0 rfl) rfl ?_
      refine .opp (P.ext (v := N r21.2) .t1 rfl) rfl ?_
      refine .opp (P.asg .t1) rfl ?_
      refine .op0 (OpP.toV (P.asg .t1)) rfl ?_
      refine .nil ?_
      refine .then ?_
      refine .seq ?_
      refine .reg rfl ?_
      refine .opp (P.mov .t0) rfl ?_
      refine .opp (P.asg .t0) rfl ?_
      refine .nil ?_
      refine .then ?_
      refine .ret ?_
      cases h
      exact .finw u23 (.r1 rfl (.tmp .g0)) trivial (Ls.of (.cons .k2 .nil)) .nil
attribute [irreducible] deal_Payload
noncomputable def mss_Leaf (a0 : ByteArray) : Option (Int) :=
  if (decide (a0 = ⟨#[]⟩)) = true then (some (-1)) else (Option.bind (bat a0 0) fun (x2 : UInt8) => some (x2.toNat : Int))
set_option maxRecDepth 20000 in
set_option maxHeartbeats 1000000 in
theorem S_mss_Leaf (a0 : ByteArray) (r : Int) (h : mss_Leaf a0 = some r) :
    SpecF Tryz.prog 96 [.string a0] [] [] (fun z : Unit => True) (fun z => N r) (fun z M =>  M) (fun z M =>  M) := by
  refine .of func96 rfl ntmps96 rfl fun w0 D0 G0 => ?_
  unfold mss_Leaf at h
  refine .seq ?_
  refine .reg rfl ?_
  refine .op0 (OpP.toV (P.asg .k)) rfl ?_
  refine .nil ?_
  refine .then ?_
  refine .seq ?_
  refine .seq ?_
  refine .reg rfl ?_
  refine .opp (P.mov .g0) rfl ?_
  refine .opp (P.bin .t0 .k .str_eql) rfl ?_
  refine .nil ?_
  refine .then ?_
  refine .cond .t0 (fun c1 => ?_) (fun c1 => ?_)
  · rw [if_pos c1] at h
    refine .seq ?_
    refine .reg rfl ?_
    refine .opp (P.asg .k) rfl ?_
    refine .nil ?_
    refine .then ?_
    refine .ret ?_
    refine .thr ?_
    cases h
    exact .finw () (.r1 rfl (.tmp .g0)) trivial (Ls.of .nil) .nil
  · rw [if_neg (ne_true_of_eq_false c1)] at h
    refine .skip ?_
    refine .then ?_
    refine .seq ?_
    refine .reg rfl ?_
    refine .opp (P.mov .t0) rfl ?_
    obtain ⟨x2, hx3, h⟩ := bnd_eq h
    obtain ⟨i4, hi5, hx3⟩ := bat_eq hx3
    refine .opp (P.idxs (i := i4) .t0 .k hi5 runUnderlying9 hx3) rfl ?_
    refine .opp (P.cnvIB8 (x := x2) .t0 runUnderlying5 runUnderlying3) rfl ?_
    refine .opp (P.asg .t0) rfl ?_
    refine .nil ?_
    refine .then ?_
    refine .ret ?_
    cases h
    exact .finw () (.r1 rfl (.tmp .g0)) trivial (Ls.of .nil) .nil
attribute [irreducible] mss_Leaf
noncomputable def blob_Cut (a0 : List UInt8) (a1 : Int) : Option ((List (List UInt8))) :=
  thn (if (decide (a1 < 1)) = true then (if 1 > (a0.length : Int) then 1 else (a0.length : Int)) else a1) fun (y1 : Int) => Option.bind (slices_Chunk_byte y1) fun r7 => Option.bind (loopW (fun (s17 : Int × (List (List UInt8))) => if (decide (s17.1 < (a0.length : Int))) = true then (grd (okS a0.length (some s17.1) none none) <| grd (okS a0.length (some s17.1) (some (IntKind.i64.wrap (s17.1 + (if ((slc a0 (s17.1).toNat a0.length).length : Int) < y1 then ((slc a0 (s17.1).toNat a0.length).length : Int) else y1)))) (some (IntKind.i64.wrap (s17.1 + (if ((slc a0 (s17.1).toNat a0.length).length : Int) < y1 then ((slc a0 (s17.1).toNat a0.length).length : Int) else y1))))) <| Option.bind (slices_Clone_byte (slc a0 (s17.1).toNat (IntKind.i64.wrap (s17.1 + (if ((slc a0 (s17.1).toNat a0.length).length : Int) < y1 then ((slc a0 (s17.1).toNat a0.length).length : Int) else y1))).toNat)) fun r39 => grd ((s17.2.length + ([r39] : List (List UInt8)).length) * 24 ≤ 140737488355328) <| some (.nx ((IntKind.i64.wrap (s17.1 + y1), (s17.2 ++ ([r39] : List (List UInt8))))))) else (some (.br (s17.1, s17.2)))) (0, [])) fun o19 => Lo.on o19 fun (s17 : Int × (List (List UInt8))) => some s17.2
set_option maxRecDepth 20000 in
set_option maxHeartbeats 1000000 in
theorem S_blob_Cut (v00 : Value) (a0 : List UInt8) (a1 : Int) (r : (List (List UInt8))) (h : blob_Cut a0 a1 = some r) :
    SpecF Tryz.prog 97 [v00, N a1] [] [rows 1 v00 (a0.map (fun x => [B8 x]))] (fun z : Value × List Value => True) (fun z => z.1) (fun z M => lst 131 1 z.1 (List.zipWith (fun (_ : List UInt8) z => [z]) r z.2) ::  M) (fun z M => gz (fun (x : List UInt8) z => rows 1 z (x.map (fun x => [B8 x]))) r z.2 ::  M) := by
  refine .of func97 rfl ntmps97 rfl fun w0 D0 G0 => ?_
  unfold blob_Cut at h
  refine .seq ?_
  refine .reg rfl ?_
  refine .op0 (OpP.toV (P.asg .k)) rfl ?_
  refine .nil ?_
  refine .then ?_
  obtain ⟨y1, hj3, h⟩ := thn_eq h
  refine .cutx (γ := Unit) (E1 := fun z2 => [(1, N y1), (0, v00)]) (L1 := fun z2 => []) (R1 := fun z2 => [rows 1 v00 (a0.map (fun x => [B8 x]))]) ?_ (fun z2 => ?_)
  · clear h
    refine .seq ?_
    refine .reg rfl ?_
    refine .opp (P.mov .g1) rfl ?_
    refine .opp (P.bin .t0 .k .lss) rfl ?_
    refine .nil ?_
    refine .then ?_
    refine .cond .t0 (fun c4 => ?_) (fun c4 => ?_)
    · rw [if_pos c4] at hj3
      refine .reg rfl ?_
      refine .opp (P.mov .g0) rfl ?_
      refine .op (V.lnr (n := a0.length) .t0 Mm.m0 map_len runUnderlying131) rfl ?_
      refine .opp (P.max2 .t0 .k) rfl ?_
      refine .drop .k2 ?_
      refine .opp (P.asg .t0) rfl ?_
      refine .nil ?_
      subst hj3
      exact .stj () (.cons Mm.m0 (.cons Mm.m1 .nil)) (.of .nil) (.cons Mm.m0 .nil)
    · rw [if_neg (ne_true_of_eq_false c4)] at hj3
      refine .skip ?_
      subst hj3
      exact .stj () (.cons Mm.m1 (.cons Mm.m0 .nil)) (.of .nil) (.cons Mm.m0 .nil)
  · clear hj3
    refine .seq ?_
    refine .reg rfl ?_
    refine .opx (X.alc (cs := [nilSl]) zeroValue146 rfl) rfl fun b5 => ?_
    refine .nil ?_
    refine .then ?_
    refine .seq ?_
    refine .seq ?_
    refine .reg rfl ?_
    refine .opp (P.mov .t2) rfl ?_
    refine .opp (P.mov .t2) rfl ?_
    refine .celr Mm.m0 fun hv6 => ?_
    obtain ⟨r7, hr8, h⟩ := bnd_eq h
    refine .opg (G.call call103 (.cons .t1 (.cons .t0 .nil)) (S_slices_Chunk_byte v00 hv6 y1 r7 hr8) .nil .nil (fun _ _ => rfl) (fun _ _ => rfl) rfl) rfl fun ⟨b9, b10⟩ _ => ?_
    refine .nil ?_
    refine .then ?_
    refine .block ?_
    refine .rangeF rfl .t0 call116 func116 rfl ntmps116 rfl fun a11 O12 D13 l14 ha15 hO16 => ?_
    refine .seq ?_
    refine .reg rfl ?_
    refine .opp (P.asg .k) rfl ?_
    refine .nil ?_
    refine .then ?_
    refine .block ?_
    refine .lnil 131 1 ?_
    refine .gzn (G := (fun (x : List UInt8) z => rows 1 z (x.map (fun x => [B8 x])))) ?_
    obtain ⟨o19, ho20, h⟩ := bnd_eq h
    refine .loopW (γ := Value × List Value) (fun (s17 : Int × (List (List UInt8))) z18 => [(4, N s17.1), (0, yv l14), (1, pt b9 0), (2, pt b10 0)]) (fun (s17 : Int × (List (List UInt8))) z18 => [blk b9 131 [v00], blk b10 3 [N y1], blk b5 146 [z18.1], lst 131 1 z18.1 (List.zipWith (fun (_ : List UInt8) z => [z]) s17.2 z18.2), obj l14 (O12 .ready none), obj D13 (.deferred (some []))]) (fun (s17 : Int × (List (List UInt8))) z18 => [rows 1 v00 (a0.map (fun x => [B8 x])), gz (fun (x : List UInt8) z => rows 1 z (x.map (fun x => [B8 x]))) s17.2 z18.2]) ⟨nilSl, []⟩ ho20 (.cons Mm.m0 (.cons Mm.m1 (.cons Mm.m2 (.cons Mm.m3 .nil)))) (.of (.cons .k3 (.cons .k3 (.cons .k3 (.cons .k0 (.cons .k0 (.cons .k0 .nil))))))) (.cons Mm.m1 (.cons Mm.m0 .nil)) (fun n25 s17 z18 hr23 => ?_)
    obtain ⟨ct24, hc21, hn22⟩ := loopK_at hr23
    refine .seq ?_
    refine .seq ?_
    refine .reg rfl ?_
    refine .opp (P.mov .g0) rfl ?_
    refine .op (V.ld (v := v00) .g3 .k0 (.one isAgg131 rfl)) rfl ?_
    refine .op (V.lnr (n := a0.length) .t0 Mm.m0 map_len runUnderlying131) rfl ?_
    refine .opp (P.bin .t1 .t0 .lss) rfl ?_
    refine .nil ?_
    refine .then ?_
    refine .cond .t0 (fun c26 => ?_) (fun c26 => ?_)
    · rw [if_pos c26] at hc21
      refine .skip ?_
      refine .then ?_
      refine .seq ?_
      refine .block ?_
      refine .seq ?_
      refine .draw 7 (.on 2 .pu (.on 0 .ld (.on 1 .ld (.on 3 .pu (.on 4 .ld (.on 5 .pu (.on 6 .go .nl))))))) follows_mixed (.thn (.inb (.thn (.thn (.inb .body))))) (by kernel_rfl) ?_
      refine .dpu rfl (.n rfl) (P.mov .g0) rfl rfl ?_
      refine .dld rfl (.n rfl) (V.ld (v := N y1) .g4 .k1 (.one isAgg3 rfl)) (fun _ h => h) rfl rfl ?_
      refine .dld rfl (.n rfl) (V.ld (v := v00) .g4 .k0 (.one isAgg131 rfl)) (fun _ h => h) rfl rfl ?_
      obtain ⟨hb27, hc21⟩ := grd_eq hc21
      refine .slnq Mm.m0 fun hq31 => ?_
      simp only [List.length_map] at hq31
      refine .dpu rfl (.n rfl) (P.slp (li := (some s17.1)) (hj := none) (mk := none) .t0 (.some .t1) .none .none hq31 runUnderlying131 sizeOf5 (by simpa using hb27)) rfl rfl ?_
      refine .slgen Mm.m0 (by simpa using hb27) fun u28 => ?_
      refine .rhead (q := rows 1 u28 ((slc a0 (s17.1).toNat a0.length).map (fun x => [B8 x]))) (fun _ hh => by simpa [slc_map] using hh) ?_
      refine .rfact Mm.m0 (fun _ r => rows_shape r) fun hs32 => ?_
      rw [List.length_map] at hs32
      refine .dld rfl (.n rfl) (OpP.toV (P.lnh (n := (slc a0 (s17.1).toNat a0.length).length) .t0 hs32 runUnderlying131)) (fun _ h => (h.imp (Ls.of (.cons .k0 (.cons .k0 (.cons .k0 (.cons .k0 (.cons .k0 (.cons .k0 .nil)))))))).ro (Rs.cons Mm.m1 (Rs.cons Mm.m2 Rs.nil))) rfl rfl ?_
      refine .dpu rfl (.n rfl) (P.min2 .t1 .t0) rfl rfl ?_
      refine .dgo rfl (.n rfl) (OpV.g (OpP.toV (P.asg .t0)) rfl) (.inr fun _ _ _ h => (h.imp (Ls.of (.cons .k0 (.cons .k0 (.cons .k0 (.cons .k0 (.cons .k0 (.cons .k0 .nil)))))))).ro (Rs.cons Mm.m1 (Rs.cons Mm.m2 Rs.nil))) fun _ _ => ?_
      refine .dnil ?_
      refine .then ?_
      refine .seq ?_
      refine .regY 10 rfl ?_
      refine .opp (P.mov .g2) rfl ?_
      refine .op (V.ld (v := v00) .g4 .k0 (.one isAgg131 rfl)) rfl ?_
      refine .opp (P.mov .g3) rfl ?_
      refine .opp (P.mov .g4) rfl ?_
      refine .opp (P.mov .g4) rfl ?_
      refine .opp (P.bin .t1 .t0 .add) rfl ?_
      refine .opp (P.mov .g5) rfl ?_
      refine .opp (P.mov .t5) rfl ?_
      refine .opp (P.bin .t1 .t0 .add) rfl ?_
      obtain ⟨hb33, hc21⟩ := grd_eq hc21
      refine .capq Mm.m1 fun hc35 => ?_
      refine .opg (G.slr (li := (some s17.1)) (hj := (some (IntKind.i64.wrap (s17.1 + (if ((slc a0 (s17.1).toNat a0.length).length : Int) < y1 then ((slc a0 (s17.1).toNat a0.length).length : Int) else y1))))) (mk := (some (IntKind.i64.wrap (s17.1 + (if ((slc a0 (s17.1).toNat a0.length).length : Int) < y1 then ((slc a0 (s17.1).toNat a0.length).length : Int) else y1))))) .t3 (.some .t2) (.some .t1) (.some .t0) Mm.m1 hc35 runUnderlying131 sizeOf5 (by simpa using hb33) rfl) rfl fun u34 hu36 => ?_
      refine .rhead (q := rows 1 u34 ((slc a0 (s17.1).toNat (IntKind.i64.wrap (s17.1 + (if ((slc a0 (s17.1).toNat a0.length).length : Int) < y1 then ((slc a0 (s17.1).toNat a0.length).length : Int) else y1))).toNat).map (fun x => [B8 x]))) (fun _ hh => by simpa [slc_map] using hh) ?_
      refine .nil ?_
      refine .then ?_
      refine .yield (ps := [15]) .t1 (.cons .t0 .nil) hO16 .k4 rfl rfl (by decide) fun a37 ha38 => ?_
      refine .reg rfl ?_
      refine .opp (P.asg .t0) rfl ?_
      refine .nil ?_
      refine .then ?_
      refine .bg rfl hO16 .k0 ?_
      refine .block ?_
      obtain ⟨r39, hr40, hc21⟩ := bnd_eq hc21
      obtain ⟨hb47, hc21⟩ := grd_eq hc21
      refine .dcut (γ := Value × Value × Value) (φ := fun _ => True) (E1 := fun x_ => []) (L1 := fun x_ => [blk b5 146 [x_.2.2], lst 131 1 x_.2.2 (List.zipWith (fun (_ : List UInt8) z => [z]) (s17.2 ++ ([r39] : List (List UInt8))) (z18.2 ++ [x_.1])), lst 131 1 x_.2.1 [[x_.1]], obj l14 (O12 .busy none), blk b9 131 [v00], blk b10 3 [N y1], obj D13 (.deferred (some []))]) (R1 := fun x_ => [gz (fun (x : List UInt8) z => rows 1 z (x.map (fun x => [B8 x]))) (s17.2 ++ [r39]) (z18.2 ++ [x_.1]), gz (fun (x : List UInt8) z => rows 1 z (x.map (fun x => [B8 x]))) ([r39]) ([x_.1]), rows 1 x_.1 (r39.map (fun x => [B8 x])), rows 1 u34 ((slc a0 (s17.1).toNat (IntKind.i64.wrap (s17.1 + (if ((slc a0 (s17.1).toNat a0.length).length : Int) < y1 then ((slc a0 (s17.1).toNat a0.length).length : Int) else y1))).toNat).map (fun x => [B8 x])), rows 1 u28 ((slc a0 (s17.1).toNat a0.length).map (fun x => [B8 x])), rows 1 v00 (a0.map (fun x => [B8 x])), gz (fun (x : List UInt8) z => rows 1 z (x.map (fun x => [B8 x]))) s17.2 z18.2]) ?_ (fun x_ _ => ?_)
      · refine .draw 2 (.on 1 .pu (.fk 0 2 (.on 2 .go (.on 3 .go (.on 4 .go (.on 5 .go .nl)))) (.fk 0 3 (.on 3 .go (.on 4 .go (.on 5 .go .nl))) (.on 0 .go (.on 4 .go (.on 5 .go .nl)))))) follows_mixed (.thn (.inb .rnd)) (by kernel_rfl) ?_
        refine .dpu rfl (.n rfl) (P.mov .t0) rfl rfl ?_
        refine .dfk ?_ ?_
        · refine .dgo rfl (.n rfl) (OpV.g (V.ld (v := z18.1) .g1 .k3 (.one isAgg146 rfl)) rfl) (.inr fun _ _ _ h => h) fun _ _ => ?_
          refine .dgo rfl (.n rfl) (G.call call109 (.cons .t1 .nil) (S_slices_Clone_byte u34 (slc a0 (s17.1).toNat (IntKind.i64.wrap (s17.1 + (if ((slc a0 (s17.1).toNat a0.length).length : Int) < y1 then ((slc a0 (s17.1).toNat a0.length).length : Int) else y1))).toNat) r39 hr40) .nil (.cons Mm.m0 .nil) (fun _ _ => rfl) (fun _ _ => rfl) rfl) (.inl rfl) fun u41 _ => ?_
          refine .onel .k0 fun ho43 => ?_
          refine .dgo rfl (.n rfl) (G.bsl (cs := [u41]) .t0 runUnderlying146 sizeOf131 zeroValue131 (cells1 ho43) rfl rfl rfl rfl) (.inl rfl) fun u42 _ => ?_
          refine .gzl Mm.m3 fun hz45 => ?_
          refine .frz .k1 ?_
          refine .gzn (G := (fun (x : List UInt8) z => rows 1 z (x.map (fun x => [B8 x])))) ?_
          refine .gzc (x := r39) (z := u41) Mm.m0 rfl ?_
          refine .gzo (D := (fun (_ : List UInt8) z => [z])) Mm.m0 (fun _ _ _ h => rows_one h) (fun _ _ h => onez h) fun ho46 => ?_
          refine .gza Mm.m5 Mm.m0 ?_
          refine .dgo rfl (.n rfl) (G.app (by_ := 24) .t1 .t0 .k5 (.inr (.inr ⟨_, Mm.m0⟩)) runUnderlying146 runUnderlying146 sizeOf131 typeInfo131 rfl rfl zeroValue131 rfl ho46 (by simpa [zip_len hz45] using hb47) rfl) (.inl rfl) fun u44 _ => ?_
          refine .conseq .k0 (q := lst 131 1 u44 (List.zipWith (fun (_ : List UInt8) z => [z]) (s17.2 ++ ([r39] : List (List UInt8))) (z18.2 ++ [u41]))) (fun _ hh => by simpa [zip_app hz45] using hh) ?_
          refine .onel .k0 fun ho48 => ?_
          refine .dgo rfl (.n rfl) (G.str .t0 .t0 .k5 (.mk1 (cs' := [u44]) sizeOf146 rfl ho48 rfl rfl)) (.inl rfl) fun _ _ => ?_
          refine .dnil ?_
          exact .dst ⟨u41, u42, u44⟩ trivial .nil (Ls.of (.cons .k0 (.cons .k0 (.cons .k0 (.cons .k0 (.cons .k0 (.cons .k0 (.cons .k0 .nil)))))))) (.cons Mm.m0 (.cons Mm.m1 (.cons Mm.m2 (.cons Mm.m3 (.cons Mm.m4 (.cons Mm.m5 (.cons Mm.m6 .nil)))))))
        · refine .dgo rfl (.n rfl) (G.call call109 (.cons .t0 .nil) (S_slices_Clone_byte u34 (slc a0 (s17.1).toNat (IntKind.i64.wrap (s17.1 + (if ((slc a0 (s17.1).toNat a0.length).length : Int) < y1 then ((slc a0 (s17.1).toNat a0.length).length : Int) else y1))).toNat) r39 hr40) .nil (.cons Mm.m0 .nil) (fun _ _ => rfl) (fun _ _ => rfl) rfl) (.inl rfl) fun u41 _ => ?_
          refine .dfk ?_ ?_
          · refine .dgo rfl (.n rfl) (OpV.g (V.ld (v := z18.1) .g1 .k4 (.one isAgg146 rfl)) rfl) (.inl rfl) fun _ _ => ?_
            refine .onel .k0 fun ho43 => ?_
            refine .dgo rfl (.n rfl) (G.bsl (cs := [u41]) .t1 runUnderlying146 sizeOf131 zeroValue131 (cells1 ho43) rfl rfl rfl rfl) (.inl rfl) fun u42 _ => ?_
            refine .gzl Mm.m3 fun hz45 => ?_
            refine .frz .k1 ?_
            refine .gzn (G := (fun (x : List UInt8) z => rows 1 z (x.map (fun x => [B8 x])))) ?_
            refine .gzc (x := r39) (z := u41) Mm.m0 rfl ?_
            refine .gzo (D := (fun (_ : List UInt8) z => [z])) Mm.m0 (fun _ _ _ h => rows_one h) (fun _ _ h => onez h) fun ho46 => ?_
            refine .gza Mm.m5 Mm.m0 ?_
            refine .dgo rfl (.n rfl) (G.app (by_ := 24) .t1 .t0 .k5 (.inr (.inr ⟨_, Mm.m0⟩)) runUnderlying146 runUnderlying146 sizeOf131 typeInfo131 rfl rfl zeroValue131 rfl ho46 (by simpa [zip_len hz45] using hb47) rfl) (.inl rfl) fun u44 _ => ?_
            refine .conseq .k0 (q := lst 131 1 u44 (List.zipWith (fun (_ : List UInt8) z => [z]) (s17.2 ++ ([r39] : List (List UInt8))) (z18.2 ++ [u41]))) (fun _ hh => by simpa [zip_app hz45] using hh) ?_
            refine .onel .k0 fun ho48 => ?_
            refine .dgo rfl (.n rfl) (G.str .t0 .t0 .k5 (.mk1 (cs' := [u44]) sizeOf146 rfl ho48 rfl rfl)) (.inl rfl) fun _ _ => ?_
            refine .dnil ?_
            exact .dst ⟨u41, u42, u44⟩ trivial .nil (Ls.of (.cons .k0 (.cons .k0 (.cons .k0 (.cons .k0 (.cons .k0 (.cons .k0 (.cons .k0 .nil)))))))) (.cons Mm.m0 (.cons Mm.m1 (.cons Mm.m2 (.cons Mm.m3 (.cons Mm.m4 (.cons Mm.m5 (.cons Mm.m6 .nil)))))))
          · refine .onel .k0 fun ho43 => ?_
            refine .dgo rfl (.n rfl) (G.bsl (cs := [u41]) .t0 runUnderlying146 sizeOf131 zeroValue131 (cells1 ho43) rfl rfl rfl rfl) (.inl rfl) fun u42 _ => ?_
            refine .dgo rfl (.n rfl) (OpV.g (V.ld (v := z18.1) .g1 .k5 (.one isAgg146 rfl)) rfl) (.inl rfl) fun _ _ => ?_
            refine .gzl Mm.m3 fun hz45 => ?_
            refine .frz .k1 ?_
            refine .gzn (G := (fun (x : List UInt8) z => rows 1 z (x.map (fun x => [B8 x])))) ?_
            refine .gzc (x := r39) (z := u41) Mm.m0 rfl ?_
            refine .gzo (D := (fun (_ : List UInt8) z => [z])) Mm.m0 (fun _ _ _ h => rows_one h) (fun _ _ h => onez h) fun ho46 => ?_
            refine .gza Mm.m5 Mm.m0 ?_
            refine .dgo rfl (.n rfl) (G.app (by_ := 24) .t0 .t0 .k5 (.inr (.inr ⟨_, Mm.m0⟩)) runUnderlying146 runUnderlying146 sizeOf131 typeInfo131 rfl rfl zeroValue131 rfl ho46 (by simpa [zip_len hz45] using hb47) rfl) (.inl rfl) fun u44 _ => ?_
            refine .conseq .k0 (q := lst 131 1 u44 (List.zipWith (fun (_ : List UInt8) z => [z]) (s17.2 ++ ([r39] : List (List UInt8))) (z18.2 ++ [u41]))) (fun _ hh => by simpa [zip_app hz45] using hh) ?_
            refine .onel .k0 fun ho48 => ?_
            refine .dgo rfl (.n rfl) (G.str .t0 .t0 .k5 (.mk1 (cs' := [u44]) sizeOf146 rfl ho48 rfl rfl)) (.inl rfl) fun _ _ => ?_
            refine .dnil ?_
            exact .dst ⟨u41, u42, u44⟩ trivial .nil (Ls.of (.cons .k0 (.cons .k0 (.cons .k0 (.cons .k0 (.cons .k0 (.cons .k0 (.cons .k0 .nil)))))))) (.cons Mm.m0 (.cons Mm.m1 (.cons Mm.m2 (.cons Mm.m3 (.cons Mm.m4 (.cons Mm.m5 (.cons Mm.m6 .nil)))))))
      · obtain ⟨u41, u42, u44⟩ := x_
        refine .inn ?_
        refine .rnorm rfl ⟨rfl, rfl, rfl⟩ ha38 hO16 .k3 rfl ?_
        refine .inL rfl ?_
        refine .opp (P.not .t0) rfl ?_
        refine .nil ?_
        refine .then ?_
        refine .condF .t0 ?_
        refine .skip ?_
        refine .inn ?_
        refine .then ?_
        refine .reg rfl ?_
        refine .opp (P.mov .g0) rfl ?_
        refine .op (V.ld (v := N y1) .g4 .k5 (.one isAgg3 rfl)) rfl ?_
        refine .opp (P.bin .t1 .t0 .add) rfl ?_
        refine .drop .k1 ?_
        refine .opp (P.asg .t0) rfl ?_
        refine .nil ?_
        cases hc21
        obtain ⟨m49, hm50, hn22⟩ := hn22
        exact .rdW ((IntKind.i64.wrap (s17.1 + y1), (s17.2 ++ ([r39] : List (List UInt8))))) ⟨u44, (z18.2 ++ [u41])⟩ hm50 hn22 (.cons Mm.m0 (.cons Mm.m1 (.cons Mm.m2 (.cons Mm.m3 .nil)))) (.of (.cons .k4 (.cons .k4 (.cons .k1 (.cons .k1 (.cons .k0 (.cons .k1 .nil))))))) (.cons Mm.m5 (.cons Mm.m0 .nil))
    · rw [if_neg (ne_true_of_eq_false c26)] at hc21
      refine .exit ?_
      refine .thx ?_
      cases hc21
      refine .told (γ := Value × List Value) h hn22 (fun (s17 : Int × (List (List UInt8))) z18 => [(4, N s17.1), (0, yv l14), (1, pt b9 0), (2, pt b10 0)]) (fun (s17 : Int × (List (List UInt8))) z18 => [blk b9 131 [v00], blk b10 3 [N y1], blk b5 146 [z18.1], lst 131 1 z18.1 (List.zipWith (fun (_ : List UInt8) z => [z]) s17.2 z18.2), obj l14 (O12 .ready none), obj D13 (.deferred (some []))]) (fun (s17 : Int × (List (List UInt8))) z18 => [rows 1 v00 (a0.map (fun x => [B8 x])), gz (fun (x : List UInt8) z => rows 1 z (x.map (fun x => [B8 x]))) s17.2 z18.2]) ⟨z18.1, z18.2⟩ (.cons Mm.m0 (.cons Mm.m1 (.cons Mm.m2 (.cons Mm.m3 .nil)))) (.of (.cons .k0 (.cons .k0 (.cons .k0 (.cons .k0 (.cons .k0 (.cons .k0 .nil))))))) (.cons Mm.m0 (.cons Mm.m1 .nil)) (fun s17 z18 h' => ?_)
      replace h := h'
      refine .thx ?_
      refine .inb ?_
      refine .rfinn ha15 hO16 .k4 rfl ?_
      refine .inn ?_
      refine .then ?_
      refine .seq ?_
      refine .reg rfl ?_
      refine .op (V.ld (v := z18.1) .t0 .k2 (.one isAgg146 rfl)) rfl ?_
      refine .opp (P.asg .t0) rfl ?_
      refine .nil ?_
      refine .then ?_
      refine .ret ?_
      cases h
      exact .finm ⟨z18.1, z18.2⟩ .k4 (.r1 rfl (.tmp .g0)) trivial (Ls.of (.cons .k3 .nil)) (.cons Mm.m1 .nil)
attribute [irreducible] blob_Cut
noncomputable def ots_Open_1 (a0 : ByteArray) : Bool :=
  decide ((a0.size : Int) ≠ 8)
set_option maxRecDepth 20000 in
set_option maxHeartbeats 1000000 in
theorem S_ots_Open_1 (a0 : ByteArray) (r : Bool) (h : ots_Open_1 a0 = r) :
    SpecF Tryz.prog 112 [.string a0] [] [] (fun z : Unit => True) (fun z => Bo r) (fun z M =>  M) (fun z M =>  M) := by
  refine .of func112 rfl ntmps112 rfl fun w0 D0 G0 => ?_
  unfold ots_Open_1 at h
  refine .seq ?_
  refine .reg rfl ?_
  refine .op0 (OpP.toV (P.asg .k)) rfl ?_
  refine .nil ?_
  refine .then ?_
  refine .seq ?_
  refine .reg rfl ?_
  refine .opp (P.mov .t0) rfl ?_
  refine .opp (P.lens .t0 runUnderlying9) rfl ?_
  refine .opp (P.bin .t0 .k .neq) rfl ?_
  refine .opp (P.asg .t0) rfl ?_
  refine .nil ?_
  refine .then ?_
  refine .ret ?_
  subst h
  exact .finw () (.r1 rfl (.tmp .g0)) trivial (Ls.of .nil) .nil
attribute [irreducible] ots_Open_1
noncomputable def slices_IndexFunc_string_ots_Open_1 (a0 : List ByteArray) : Option (Int) :=
  Option.bind (loopR (fun (i1 : Nat) (e4 : ByteArray) (s2 : Unit) => if (ots_Open_1 e4) = true then (Option.map Ct.rt (some (i1 : Int))) else (some (.nx ()))) 0 a0 ()) fun o5 => Lo.on o5 fun (s2 : Unit) => some (-1)
set_option maxRecDepth 20000 in
set_option maxHeartbeats 1000000 in
theorem S_slices_IndexFunc_string_ots_Open_1 (v00 : Value) (a0 : List ByteArray) (r : Int) (h : slices_IndexFunc_string_ots_Open_1 a0 = some r) :
    SpecF Tryz.prog 122 [v00, fnv 112 []] [] [rows 1 v00 (a0.map (fun x => [.string x]))] (fun z : Unit => True) (fun z => N r) (fun z M =>  M) (fun z M =>  M) := by
  refine .of func122 rfl ntmps122 rfl fun w0 D0 G0 => ?_
  unfold slices_IndexFunc_string_ots_Open_1 at h
  refine .seq ?_
  refine .reg rfl ?_
  refine .op0 (OpP.toV (P.asg .k)) rfl ?_
  refine .nil ?_
  refine .then ?_
  refine .seq ?_
  refine .seq ?_
  refine .reg rfl ?_
  refine .opp (P.mov .g0) rfl ?_
  refine .op (V.lnr (n := a0.length) .t0 Mm.m0 map_len runUnderlying152) rfl ?_
  refine .opp (P.mov .k) rfl ?_
  refine .nil ?_
  refine .then ?_
  refine .block ?_
  obtain ⟨o5, ho6, h⟩ := bnd_eq h
  refine .lenq Mm.m0 fun hl12 => ?_
  rw [map_len] at hl12
  refine .loopR (γ := Unit) (fun i1 (s2 : Unit) z3 => [(8, N (i1 : Int)), (7, N (a0.length : Int)), (0, v00), (1, fnv 112 [])]) (fun (s2 : Unit) z3 => []) (fun (s2 : Unit) z3 => [rows 1 v00 (a0.map (fun x => [.string x]))]) () ho6 (.cons Mm.m0 (.cons Mm.m1 (.cons Mm.m2 (.cons Mm.m3 .nil)))) (.of .nil) (.cons Mm.m0 .nil) (fun i1 s2 z3 hi13 hr9 => ?_)
  refine .seq ?_
  refine .reg rfl ?_
  refine .opp (P.bin (v := Bo (decide ((i1 : Int) < (a0.length : Nat)))) .g0 .g1 .lss) rfl ?_
  refine .nil ?_
  refine .then ?_
  refine .seq ?_
  refine .cond .t0 (fun c14 => ?_) (fun c14 => ?_)
  · obtain ⟨e4, hx11⟩ := get_of c14
    obtain ⟨ct10, hc7, hn8⟩ := loopR_at hx11 hr9
    refine .skip ?_
    refine .then ?_
    refine .seq ?_
    refine .block ?_
    refine .seq ?_
    refine .reg rfl ?_
    refine .opp (P.mov .g0) rfl ?_
    refine .opp (P.asg .t0) rfl ?_
    refine .nil ?_
    refine .then ?_
    refine .seq ?_
    refine .reg rfl ?_
    refine .opp (P.mov .g4) rfl ?_
    refine .opp (P.mov .g4) rfl ?_
    refine .opp (P.mov .g2) rfl ?_
    refine .ixq Mm.m0 (map_get hx11) fun p15 q16 hq17 => ?_
    refine .opp (P.ixi (i := i1) .t0 rfl .t0 hq17 runUnderlying152 sizeOf9) rfl ?_
    refine .op (V.ldx0 (u := .string e4) .t0 hq17 Mm.m0 (map_get hx11) (.one isAgg9 rfl)) rfl ?_
    refine .opg (G.callv call112 .t1 (.cons .t0 .nil) (S_ots_Open_1 e4 _ rfl) .nil .nil (fun _ _ => rfl) (fun _ _ => rfl) rfl) rfl fun _ _ => ?_
    refine .nil ?_
    refine .then ?_
    refine .cond .t0 (fun c18 => ?_) (fun c18 => ?_)
    · rw [if_pos c18] at hc7
      refine .seq ?_
      refine .reg rfl ?_
      refine .opp (P.mov .t0) rfl ?_
      refine .opp (P.asg .t0) rfl ?_
      refine .nil ?_
      refine .then ?_
      refine .ret ?_
      refine .inr ?_
      refine .thr ?_
      obtain ⟨x19, hx20, rfl⟩ := map_rt hc7
      obtain rfl := hn8
      obtain rfl := rt_on h
      refine .thr ?_
      refine .inr ?_
      refine .thr ?_
      cases hx20
      exact .finw () (.r1 rfl (.tmp .g0)) trivial (Ls.of .nil) .nil
    · rw [if_neg (ne_true_of_eq_false c18)] at hc7
      refine .skip ?_
      refine .inn ?_
      refine .then ?_
      refine .reg rfl ?_
      refine .opp (P.bin .g1 .k (.addc (inc_ok (lt_of_get hx11) hl12))) rfl ?_
      refine .drop .k2 ?_
      refine .opp (P.mov .t0) rfl ?_
      refine .nil ?_
      cases hc7
      exact .rdR () () hn8 (lt_of_get hx11) (.cons Mm.m0 (.cons Mm.m2 (.cons Mm.m3 (.cons Mm.m4 .nil)))) (.of .nil) (.cons Mm.m0 .nil)
  · obtain rfl := loopR_end (le_of_not c14) hr9
    have h := dn_on h
    refine .exit ?_
    refine .thx ?_
    refine .thx ?_
    refine .inb ?_
    refine .then ?_
    refine .seq ?_
    refine .reg rfl ?_
    refine .opp (P.asg .k) rfl ?_
    refine .nil ?_
    refine .then ?_
    refine .ret ?_
    cases h
    exact .finw () (.r1 rfl (.tmp .g0)) trivial (Ls.of .nil) .nil
attribute [irreducible] slices_IndexFunc_string_ots_Open_1
noncomputable def slices_ContainsFunc_string_ots_Open_1 (a0 : List ByteArray) : Option (Bool) :=
  Option.bind (slices_IndexFunc_string_ots_Open_1 a0) fun r1 => some (decide (r1 ≥ 0))
set_option maxRecDepth 20000 in
set_option maxHeartbeats 1000000 in
theorem S_slices_ContainsFunc_string_ots_Open_1 (v00 : Value) (a0 : List ByteArray) (r : Bool) (h : slices_ContainsFunc_string_ots_Open_1 a0 = some r) :
    SpecF Tryz.prog 111 [v00, fnv 112 []] [] [rows 1 v00 (a0.map (fun x => [.string x]))] (fun z : Unit => True) (fun z => Bo r) (fun z M =>  M) (fun z M =>  M) := by
  refine .of func111 rfl ntmps111 rfl fun w0 D0 G0 => ?_
  unfold slices_ContainsFunc_string_ots_Open_1 at h
  refine .seq ?_
  refine .reg rfl ?_
  refine .op0 (OpP.toV (P.asg .k)) rfl ?_
  refine .nil ?_
  refine .then ?_
  refine .seq ?_
  refine .reg rfl ?_
  refine .opp (P.mov .t0) rfl ?_
  refine .opp (P.mov .t1) rfl ?_
  obtain ⟨r1, hr2, h⟩ := bnd_eq h
  refine .opg (G.call call122 (.cons .t1 (.cons .t0 .nil)) (S_slices_IndexFunc_string_ots_Open_1 v00 a0 r1 hr2) .nil (.cons Mm.m0 .nil) (fun _ _ => rfl) (fun _ _ => rfl) rfl) rfl fun _ _ => ?_
  refine .opp (P.bin .t0 .k .geq) rfl ?_
  refine .opp (P.asg .t0) rfl ?_
  refine .nil ?_
  refine .then ?_
  refine .ret ?_
  cases h
  exact .finw () (.r1 rfl (.tmp .g0)) trivial (Ls.of .nil) .nil
attribute [irreducible] slices_ContainsFunc_string_ots_Open_1
noncomputable def slices_Backward_int  : Unit :=
  ()
set_option maxRecDepth 20000 in
set_option maxHeartbeats 1000000 in
theorem S_slices_Backward_int (v00 : Value) (hv00 : IsSl v00) (r : Unit) (h : slices_Backward_int  = r) :
    SpecF Tryz.prog 127 [v00] [] [] (fun z : Nat => True) (fun z => fnv 129 [pt z 0]) (fun z M => blk z 23 [v00] ::  M) (fun z M =>  M) := by
  refine .of func127 rfl ntmps127 rfl fun w0 D0 G0 => ?_
  unfold slices_Backward_int at h
  refine .seq ?_
  refine .reg rfl ?_
  refine .opx (X.box (cs := [v00]) .t0 hv00.cells) rfl fun b1 => ?_
  refine .op0 (OpP.toV (P.asg .k)) rfl ?_
  refine .nil ?_
  refine .then ?_
  refine .seq ?_
  refine .reg rfl ?_
  refine .opp (P.mkf (.cons .t0 .nil)) rfl ?_
  refine .opp (P.asg .t0) rfl ?_
  refine .nil ?_
  refine .then ?_
  refine .ret ?_
  subst h
  exact .finw b1 (.r1 rfl (.tmp .g0)) trivial (Ls.of (.cons .k0 .nil)) .nil
attribute [irreducible] slices_Backward_int
noncomputable def ots_spread (a0 : Int) (a1 : Int) : Option ((List Int)) :=
  grd (0 ≤ a1 ∧ a1 * 8 ≤ 140737488355328) <| Option.bind (loopW (fun (s14 : Int × (List Int) × (List Int) × Int) => if (decide (s14.1 ≥ 0)) = true then (Option.bind (at_ s14.2.1 s14.1) fun (x27 : Int) => Option.bind (at_ s14.2.1 s14.1) fun (x36 : Int) => some (.nx ((IntKind.i64.wrap (s14.1 - 1), (s14.2.1.set (s14.1).toNat (bandK .i64 s14.2.2.2 3 : Int)), (s14.2.1.set (s14.1).toNat (bandK .i64 s14.2.2.2 3 : Int)), shrK .i64 s14.2.2.2 2)))) else (some (.br (s14.1, s14.2.1, s14.2.1, s14.2.2.2)))) ((IntKind.i64.wrap (((List.replicate (a1).toNat (0 : Int)).length : Int) - 1), (List.replicate (a1).toNat (0 : Int)), (List.replicate (a1).toNat (0 : Int)), a0))) fun o16 => Lo.on o16 fun (s14 : Int × (List Int) × (List Int) × Int) => some s14.2.1
set_option maxRecDepth 20000 in
set_option maxHeartbeats 1000000 in
theorem S_ots_spread (a0 : Int) (a1 : Int) (r : (List Int)) (h : ots_spread a0 a1 = some r) :
    SpecF Tryz.prog 124 [N a0, N a1] [] [] (fun z : Value => True) (fun z => z) (fun z M => lst 3 1 z (r.map (fun x => [N x])) ::  M) (fun z M =>  M) := by
  refine .of func124 rfl ntmps124 rfl fun w0 D0 G0 => ?_
  unfold ots_spread at h
  refine .seq ?_
  refine .reg rfl ?_
  refine .opx (X.box (cs := [N a0]) .t0 rfl) rfl fun b1 => ?_
  refine .op0 (OpP.toV (P.asg .k)) rfl ?_
  refine .nil ?_
  refine .then ?_
  refine .seq ?_
  refine .reg rfl ?_
  refine .opp (P.mov .t1) rfl ?_
  obtain ⟨hb3, h⟩ := grd_eq h
  refine .opg (G.mks (by_ := 8) (cs := [N 0]) .g0 .t0 runUnderlying23 sizeOf3 typeInfo3 rfl zeroValue3 rfl rfl rfl rfl hb3.1 hb3.2 rfl) rfl fun u2 _ => ?_
  refine .conseq .k0 (q := lst 3 1 u2 ((List.replicate (a1).toNat (0 : Int)).map (fun x => [N x]))) (fun _ hh => by simpa [List.map_replicate] using hh) ?_
  refine .opx (X.alc (cs := [nilSl]) zeroValue23 rfl) rfl fun b4 => ?_
  refine .onel .k1 fun ho5 => ?_
  refine .opg (G.str .t1 .g0 .k0 (.mk1 (cs' := [u2]) sizeOf23 rfl ho5 rfl rfl)) rfl fun _ _ => ?_
  refine .nil ?_
  refine .then ?_
  refine .seq ?_
  refine .seq ?_
  refine .reg rfl ?_
  refine .op (V.ld (v := u2) .g0 .k0 (.one isAgg23 rfl)) rfl ?_
  refine .cell .k1 fun hv6 => ?_
  refine .opg (G.call call127 (.cons .t0 .nil) (S_slices_Backward_int u2 hv6 _ rfl) .nil .nil (fun _ _ => rfl) (fun _ _ => rfl) rfl) rfl fun b7 _ => ?_
  refine .nil ?_
  refine .then ?_
  refine .block ?_
  refine .rangeF rfl .t0 call129 func129 rfl ntmps129 rfl fun a8 O9 D10 l11 ha12 hO13 => ?_
  refine .seq ?_
  refine .reg rfl ?_
  refine .op (V.ld (v := u2) .g1 .k2 (.one isAgg23 rfl)) rfl ?_
  refine .op (V.lnl (n := (List.replicate (a1).toNat (0 : Int)).length) .t0 .k4 map_len runUnderlying23) rfl ?_
  refine .opp (P.bin .t0 .k .sub) rfl ?_
  refine .opp (P.asg .t0) rfl ?_
  refine .nil ?_
  refine .then ?_
  refine .block ?_
  obtain ⟨o16, ho17, h⟩ := bnd_eq h
  refine .loopW (γ := Unit) (fun (s14 : Int × (List Int) × (List Int) × Int) z15 => [(3, N s14.1), (0, yv l11), (1, pt b7 0)]) (fun (s14 : Int × (List Int) × (List Int) × Int) z15 => [blk b7 23 [u2], blk b4 23 [u2], blk b1 3 [N s14.2.2.2], lst 3 1 u2 (s14.2.1.map (fun x => [N x])), obj l11 (O9 .ready none), obj D10 (.deferred (some []))]) (fun (s14 : Int × (List Int) × (List Int) × Int) z15 => []) () ho17 (.cons Mm.m0 (.cons Mm.m1 (.cons Mm.m2 .nil))) (.of (.cons .k2 (.cons .k2 (.cons .k3 (.cons .k2 (.cons .k0 (.cons .k0 .nil))))))) .nil (fun n22 s14 z15 hr20 => ?_)
  obtain ⟨ct21, hc18, hn19⟩ := loopK_at hr20
  refine .seq ?_
  refine .seq ?_
  refine .reg rfl ?_
  refine .opp (P.mov .g0) rfl ?_
  refine .opp (P.bin .t0 .k .geq) rfl ?_
  refine .nil ?_
  refine .then ?_
  refine .cond .t0 (fun c23 => ?_) (fun c23 => ?_)
  · rw [if_pos c23] at hc18
    refine .skip ?_
    refine .then ?_
    refine .seq ?_
    refine .block ?_
    refine .seq ?_
    refine .regY 6 rfl ?_
    refine .opp (P.mov .g1) rfl ?_
    refine .opp (P.mov .g1) rfl ?_
    refine .op (V.ld (v := u2) .g4 .k0 (.one isAgg23 rfl)) rfl ?_
    refine .opp (P.mov .g3) rfl ?_
    obtain ⟨x27, hx28, hc18⟩ := bnd_eq hc18
    obtain ⟨i29, hi30, hx28⟩ := at_eq hx28
    have hi30_ : (s14.1).toNat = i29 := by rw [hi30]; rfl
    refine .ixql .k3 (map_get hx28) fun p24 q25 hq26 => ?_
    refine .opp (P.ixi (i := i29) .t0 hi30 .t0 hq26 runUnderlying23 sizeOf3) rfl ?_
    refine .op (V.ldxl0 (u := N x27) .t0 hq26 .k3 (map_get hx28) (.one isAgg3 rfl)) rfl ?_
    refine .nil ?_
    refine .then ?_
    refine .yield (ps := [11, 12]) .t2 (.cons .t1 (.cons .t0 .nil)) hO13 .k4 rfl rfl (by decide) fun a31 ha32 => ?_
    refine .reg rfl ?_
    refine .opp (P.asg .t0) rfl ?_
    refine .nil ?_
    refine .then ?_
    refine .bg rfl hO13 .k0 ?_
    refine .block ?_
    refine .seq ?_
    refine .reg rfl ?_
    refine .op (V.ld (v := u2) .t2 .k2 (.one isAgg23 rfl)) rfl ?_
    refine .opp (P.mov .t1) rfl ?_
    refine .op (V.ld (v := N s14.2.2.2) .g3 .k3 (.one isAgg3 rfl)) rfl ?_
    refine .opp (P.bin .t0 .k .and) rfl ?_
    obtain ⟨x36, hx37, hc18⟩ := bnd_eq hc18
    obtain ⟨i38, hi39, hx37⟩ := at_eq hx37
    have hi39_ : (s14.1).toNat = i38 := by rw [hi39]; rfl
    refine .ixql .k4 (map_get hx37) fun p33 q34 hq35 => ?_
    refine .opp (P.ixi (i := i38) .t1 hi39 .t1 hq35 runUnderlying23 sizeOf3) rfl ?_
    refine .opg (G.stx (off := q34) (k := 0) (cs' := [N (bandK .i64 s14.2.2.2 3)]) .t1 .t0 hq35 .k4 (map_get hx37) (.mk sizeOf3 rfl rfl rfl rfl)) rfl fun _ _ => ?_
    refine .conseq .k0 (q := lst 3 1 u2 ((s14.2.1.set (s14.1).toNat (bandK .i64 s14.2.2.2 3 : Int)).map (fun x => [N x]))) (fun _ h_ => by rw [hi39_]; simpa [List.map_set] using h_) ?_
    refine .nil ?_
    refine .then ?_
    refine .reg rfl ?_
    refine .op (V.ld (v := N s14.2.2.2) .g1 .k4 (.one isAgg3 rfl)) rfl ?_
    refine .opp (P.bin .t0 .k (.shr (by decide))) rfl ?_
    refine .opg (G.str .t0 .t1 .k4 (.mk (cs' := [N (shrK .i64 s14.2.2.2 2)]) sizeOf3 rfl rfl rfl rfl)) rfl fun _ _ => ?_
    refine .nil ?_
    refine .inn ?_
    refine .rnorm rfl ⟨rfl, rfl, rfl⟩ ha32 hO13 .k2 rfl ?_
    refine .inL rfl ?_
    refine .opp (P.not .t0) rfl ?_
    refine .nil ?_
    refine .then ?_
    refine .condF .t0 ?_
    refine .skip ?_
    refine .inn ?_
    refine .then ?_
    refine .reg rfl ?_
    refine .opp (P.mov .g0) rfl ?_
    refine .opp (P.bin .t0 .k .sub) rfl ?_
    refine .drop .k1 ?_
    refine .opp (P.asg .t0) rfl ?_
    refine .nil ?_
    cases hc18
    obtain ⟨m40, hm41, hn19⟩ := hn19
    exact .rdW ((IntKind.i64.wrap (s14.1 - 1), (s14.2.1.set (s14.1).toNat (bandK .i64 s14.2.2.2 3 : Int)), (s14.2.1.set (s14.1).toNat (bandK .i64 s14.2.2.2 3 : Int)), shrK .i64 s14.2.2.2 2)) () hm41 hn19 (.cons Mm.m0 (.cons Mm.m1 (.cons Mm.m2 .nil))) (.of (.cons .k3 (.cons .k3 (.cons .k1 (.cons .k1 (.cons .k0 (.cons .k0 .nil))))))) .nil
  · rw [if_neg (ne_true_of_eq_false c23)] at hc18
    refine .exit ?_
    refine .thx ?_
    cases hc18
    refine .told (γ := Unit) h hn19 (fun (s14 : Int × (List Int) × (List Int) × Int) _ => [(3, N s14.1), (0, yv l11), (1, pt b7 0)]) (fun (s14 : Int × (List Int) × (List Int) × Int) _ => [blk b7 23 [u2], blk b4 23 [u2], blk b1 3 [N s14.2.2.2], lst 3 1 u2 (s14.2.1.map (fun x => [N x])), obj l11 (O9 .ready none), obj D10 (.deferred (some []))]) (fun (s14 : Int × (List Int) × (List Int) × Int) _ => []) () (.cons Mm.m0 (.cons Mm.m1 (.cons Mm.m2 .nil))) (.of (.cons .k0 (.cons .k0 (.cons .k0 (.cons .k0 (.cons .k0 (.cons .k0 .nil))))))) .nil (fun s14 _ h' => ?_)
    replace h := h'
    refine .thx ?_
    refine .inb ?_
    refine .rfinn ha12 hO13 .k4 rfl ?_
    refine .inn ?_
    refine .then ?_
    refine .seq ?_
    refine .reg rfl ?_
    refine .op (V.ld (v := u2) .t0 .k1 (.one isAgg23 rfl)) rfl ?_
    refine .opp (P.asg .t0) rfl ?_
    refine .nil ?_
    refine .then ?_
    refine .ret ?_
    cases h
    exact .finm u2 .k4 (.r1 rfl (.tmp .g0)) trivial (Ls.of (.cons .k3 .nil)) .nil
attribute [irreducible] ots_spread
noncomputable def ots_Digits (a0 : List UInt8) : Option ((List Int)) :=
  Option.bind (hash_Sum a0) fun r1 => grd (0 ≤ (3 : Int) ∧ (3 : Int) ≤ r1.length) <| Option.bind (blob_Int (r1.take (3 : Int).toNat)) fun r6 => Option.bind (ots_spread r6 12) fun r8 => Option.bind (loopR (fun (i11 : Nat) (e14 : Int) (s12 : Int) => some (.nx (IntKind.i64.wrap (s12 - e14)))) 0 r8 36) fun o15 => Lo.on o15 fun (s12 : Int) => Option.bind (ots_spread s12 3) fun r28 => grd ((r8.length + r28.length) * 8 ≤ 140737488355328) <| some (r8 ++ r28)
set_option maxRecDepth 20000 in
set_option maxHeartbeats 1000000 in
theorem S_ots_Digits (v00 : Value) (a0 : List UInt8) (r : (List Int)) (h : ots_Digits a0 = some r) :
    SpecF Tryz.prog 114 [v00] [] [rows 1 v00 (a0.map (fun x => [B8 x]))] (fun z : Value => True) (fun z => z) (fun z M => lst 3 1 z (r.map (fun x => [N x])) ::  M) (fun z M =>  M) := by
  refine .of func114 rfl ntmps114 rfl fun w0 D0 G0 => ?_
  unfold ots_Digits at h
  refine .seq ?_
  refine .reg rfl ?_
  refine .op0 (OpP.toV (P.asg .k)) rfl ?_
  refine .nil ?_
  refine .then ?_
  refine .seq ?_
  refine .reg rfl ?_
  refine .opp (P.mov .t0) rfl ?_
  obtain ⟨r1, hr2, h⟩ := bnd_eq h
  refine .opg (G.call call92 (.cons .t0 .nil) (S_hash_Sum v00 a0 r1 hr2) .nil (.cons Mm.m0 .nil) (fun _ _ => rfl) (fun _ _ => rfl) rfl) rfl fun u3 _ => ?_
  obtain ⟨hb5, h⟩ := grd_eq h
  refine .opg (G.sll (m := 3) .t0 .k .k0 runUnderlying131 sizeOf5 hb5.1 (by simpa using hb5.2) rfl) rfl fun u4 _ => ?_
  refine .conseq .k0 (q := lst 5 1 u4 ((r1.take (3 : Int).toNat).map (fun x => [B8 x]))) (fun _ hh => by simpa using hh) ?_
  refine .frz .k0 ?_
  obtain ⟨r6, hr7, h⟩ := bnd_eq h
  refine .opg (G.call call117 (.cons .t0 .nil) (S_blob_Int u4 (r1.take (3 : Int).toNat) r6 hr7) .nil (.cons Mm.m0 .nil) (fun _ _ => rfl) (fun _ _ => rfl) rfl) rfl fun _ _ => ?_
  obtain ⟨r8, hr9, h⟩ := bnd_eq h
  refine .opg (G.call call124 (.cons .t0 (.cons .k .nil)) (S_ots_spread r6 12 r8 hr9) .nil .nil (fun _ _ => rfl) (fun _ _ => rfl) rfl) rfl fun u10 _ => ?_
  refine .opp (P.asg .t0) rfl ?_
  refine .nil ?_
  refine .then ?_
  refine .seq ?_
  refine .reg rfl ?_
  refine .opp (P.asg .k) rfl ?_
  refine .nil ?_
  refine .then ?_
  refine .seq ?_
  refine .seq ?_
  refine .reg rfl ?_
  refine .opp (P.mov .g1) rfl ?_
  refine .op (V.lnl (n := r8.length) .g0 .k0 map_len runUnderlying23) rfl ?_
  refine .opp (P.mov .k) rfl ?_
  refine .nil ?_
  refine .then ?_
  refine .block ?_
  obtain ⟨o15, ho16, h⟩ := bnd_eq h
  refine .lenql .k0 fun hl22 => ?_
  rw [map_len] at hl22
  refine .loopR (γ := Unit) (fun i11 (s12 : Int) z13 => [(14, N (i11 : Int)), (13, N (r8.length : Int)), (12, u10), (4, N s12), (3, u10)]) (fun (s12 : Int) z13 => [lst 3 1 u10 (r8.map (fun x => [N x]))]) (fun (s12 : Int) z13 => [rows 1 v00 (a0.map (fun x => [B8 x]))]) () ho16 (.cons Mm.m0 (.cons Mm.m1 (.cons Mm.m2 (.cons Mm.m3 (.cons Mm.m4 .nil))))) (.of (.cons .k0 .nil)) (.cons Mm.m1 .nil) (fun i11 s12 z13 hi23 hr19 => ?_)
  refine .seq ?_
  refine .reg rfl ?_
  refine .opp (P.bin (v := Bo (decide ((i11 : Int) < (r8.length : Nat)))) .g0 .g1 .lss) rfl ?_
  refine .nil ?_
  refine .then ?_
  refine .seq ?_
  refine .cond .t0 (fun c24 => ?_) (fun c24 => ?_)
  · obtain ⟨e14, hx21⟩ := get_of c24
    obtain ⟨ct20, hc17, hn18⟩ := loopR_at hx21 hr19
    refine .skip ?_
    refine .then ?_
    refine .seq ?_
    refine .block ?_
    refine .seq ?_
    refine .reg rfl ?_
    refine .ixql .k0 (map_get hx21) fun p25 q26 hq27 => ?_
    refine .opp (P.ixi (i := i11) .g0 rfl .g2 hq27 runUnderlying23 sizeOf3) rfl ?_
    refine .op (V.ldxl0 (u := N e14) .t0 hq27 .k0 (map_get hx21) (.one isAgg3 rfl)) rfl ?_
    refine .opp (P.asg .t0) rfl ?_
    refine .nil ?_
    refine .then ?_
    refine .reg rfl ?_
    refine .opp (P.mov .g4) rfl ?_
    refine .opp (P.mov .t1) rfl ?_
    refine .opp (P.bin .t1 .t0 .sub) rfl ?_
    refine .drop .k4 ?_
    refine .opp (P.asg .t0) rfl ?_
    refine .nil ?_
    refine .inn ?_
    refine .then ?_
    refine .reg rfl ?_
    refine .opp (P.bin .g1 .k (.addc (inc_ok (lt_of_get hx21) hl22))) rfl ?_
    refine .drop .k2 ?_
    refine .opp (P.mov .t0) rfl ?_
    refine .nil ?_
    cases hc17
    exact .rdR (IntKind.i64.wrap (s12 - e14)) () hn18 (lt_of_get hx21) (.cons Mm.m0 (.cons Mm.m2 (.cons Mm.m3 (.cons Mm.m1 (.cons Mm.m4 .nil))))) (.of (.cons .k0 .nil)) (.cons Mm.m0 .nil)
  · obtain rfl := loopR_end (le_of_not c24) hr19
    have h := dn_on h
    refine .exit ?_
    refine .thx ?_
    refine .thx ?_
    refine .inb ?_
    refine .then ?_
    refine .seq ?_
    refine .reg rfl ?_
    refine .opp (P.mov .t4) rfl ?_
    refine .opp (P.mov .t4) rfl ?_
    obtain ⟨r28, hr29, h⟩ := bnd_eq h
    refine .opg (G.call call124 (.cons .t0 (.cons .k .nil)) (S_ots_spread s12 3 r28 hr29) .nil .nil (fun _ _ => rfl) (fun _ _ => rfl) rfl) rfl fun u30 _ => ?_
    obtain ⟨hb32, h⟩ := grd_eq h
    refine .opg (G.app (by_ := 8) .t1 .t0 .k1 (.inr (.inr ⟨_, Mm.m0⟩)) runUnderlying23 runUnderlying23 sizeOf3 typeInfo3 rfl rfl zeroValue3 rfl (one_map one_3 _) (by simpa using hb32) rfl) rfl fun u31 _ => ?_
    refine .conseq .k0 (q := lst 3 1 u31 ((r8 ++ r28).map (fun x => [N x]))) (fun _ hh => by simpa [List.map_append] using hh) ?_
    refine .opp (P.asg .t0) rfl ?_
    refine .nil ?_
    refine .then ?_
    refine .ret ?_
    cases h
    exact .finw u31 (.r1 rfl (.tmp .g0)) trivial (Ls.of (.cons .k0 .nil)) .nil
attribute [irreducible] ots_Digits
noncomputable def hash_Short_n1 (a0a : List UInt8) : Option (ByteArray) :=
  Option.bind (hash_Text_n1 a0a) fun r1 => grd (okS r1.size none (some 8) none) <| some ((r1.extract 0 (8 : Int).toNat))
set_option maxRecDepth 20000 in
set_option maxHeartbeats 1000000 in
theorem S_hash_Short_n1 (v00 : Value) (z00a : Value) (a0a : List UInt8) (r : ByteArray) (h : hash_Short_n1 a0a = some r) :
    SpecF Tryz.prog 121 [v00] [] [rows 1 v00 [[z00a]], rows 1 z00a (a0a.map (fun x => [B8 x]))] (fun z : Unit => True) (fun z => .string r) (fun z M =>  M) (fun z M =>  M) := by
  refine .of func121 rfl ntmps121 rfl fun w0 D0 G0 => ?_
  unfold hash_Short_n1 at h
  refine .seq ?_
  refine .reg rfl ?_
  refine .op0 (OpP.toV (P.asg .k)) rfl ?_
  refine .nil ?_
  refine .then ?_
  refine .seq ?_
  refine .reg rfl ?_
  refine .opp (P.mov .t0) rfl ?_
  obtain ⟨r1, hr2, h⟩ := bnd_eq h
  refine .opg (G.call call83 (.cons .t0 .nil) (S_hash_Text_n1 v00 z00a a0a r1 hr2) .nil (.cons Mm.m0 (.cons Mm.m1 .nil)) (fun _ _ => rfl) (fun _ _ => rfl) rfl) rfl fun _ _ => ?_
  obtain ⟨hb3, h⟩ := grd_eq h
  refine .opp (P.slst (li := none) (hj := (some 8)) .t0 .none (.some .k) runUnderlying9 hb3) rfl ?_
  refine .opp (P.asg .t0) rfl ?_
  refine .nil ?_
  refine .then ?_
  refine .ret ?_
  cases h
  exact .finw () (.r1 rfl (.tmp .g0)) trivial (Ls.of .nil) .nil
attribute [irreducible] hash_Short_n1
noncomputable def ots_Walk (a0 : ByteArray) (a1 : Int) : Option (ByteArray) :=
  Option.bind (loopW (fun (s1 : Int × ByteArray) => if (decide (s1.1 < (if 3 < (if 0 > a1 then 0 else a1) then 3 else if 0 > a1 then 0 else a1))) = true then (grd (s1.2.size ≤ 140737488355328) <| Option.bind (hash_Short_n1 (s1.2.data.toList)) fun r15 => some (.nx ((IntKind.i64.wrap (s1.1 + 1), r15)))) else (some (.br (s1.1, s1.2)))) (0, a0)) fun o3 => Lo.on o3 fun (s1 : Int × ByteArray) => some s1.2
set_option maxRecDepth 20000 in
set_option maxHeartbeats 1000000 in
theorem S_ots_Walk (a0 : ByteArray) (a1 : Int) (r : ByteArray) (h : ots_Walk a0 a1 = some r) :
    SpecF Tryz.prog 123 [.string a0, N a1] [] [] (fun z : Unit => True) (fun z => .string r) (fun z M =>  M) (fun z M =>  M) := by
  refine .of func123 rfl ntmps123 rfl fun w0 D0 G0 => ?_
  unfold ots_Walk at h
  refine .seq ?_
  refine .reg rfl ?_
  refine .op0 (OpP.toV (P.asg .k)) rfl ?_
  refine .nil ?_
  refine .then ?_
  refine .seq ?_
  refine .seq ?_
  refine .reg rfl ?_
  refine .opp (P.mov .t1) rfl ?_
  refine .opp (P.max2 .t0 .k) rfl ?_
  refine .opp (P.min2 .t0 .k) rfl ?_
  refine .opp (P.mov .k) rfl ?_
  refine .nil ?_
  refine .then ?_
  refine .block ?_
  obtain ⟨o3, ho4, h⟩ := bnd_eq h
  refine .loopW (γ := Unit) (fun (s1 : Int × ByteArray) z2 => [(8, N s1.1), (7, N (if 3 < (if 0 > a1 then 0 else a1) then 3 else if 0 > a1 then 0 else a1)), (0, .string s1.2)]) (fun (s1 : Int × ByteArray) z2 => []) (fun (s1 : Int × ByteArray) z2 => []) () ho4 (.cons Mm.m0 (.cons Mm.m1 (.cons Mm.m2 .nil))) (.of .nil) .nil (fun n9 s1 z2 hr7 => ?_)
  obtain ⟨ct8, hc5, hn6⟩ := loopK_at hr7
  refine .seq ?_
  refine .reg rfl ?_
  refine .opp (P.bin .g0 .g1 .lss) rfl ?_
  refine .nil ?_
  refine .then ?_
  refine .seq ?_
  refine .cond .t0 (fun c10 => ?_) (fun c10 => ?_)
  · rw [if_pos c10] at hc5
    refine .skip ?_
    refine .then ?_
    refine .seq ?_
    refine .block ?_
    refine .reg rfl ?_
    refine .opp (P.mov .g2) rfl ?_
    obtain ⟨hb12, hc5⟩ := grd_eq hc5
    refine .opg (G.s2b (e := 5) .t0 (by kernel_rfl) (by kernel_rfl) (by kernel_rfl) hb12 rfl) rfl fun u11 _ => ?_
    refine .oner Mm.m0 fun ho14 => ?_
    refine .opg (G.bsl (cs := [u11]) .t0 runUnderlying146 sizeOf131 zeroValue131 (cells1 ho14) rfl rfl rfl rfl) rfl fun u13 _ => ?_
    refine .frz .k0 ?_
    obtain ⟨r15, hr16, hc5⟩ := bnd_eq hc5
    refine .opg (G.call call121 (.cons .t0 .nil) (S_hash_Short_n1 u13 u11 (s1.2.data.toList) r15 hr16) .nil (.cons Mm.m0 (.cons Mm.m1 .nil)) (fun _ _ => rfl) (fun _ _ => rfl) rfl) rfl fun _ _ => ?_
    refine .drop .k3 ?_
    refine .opp (P.asg .t0) rfl ?_
    refine .nil ?_
    refine .inn ?_
    refine .then ?_
    refine .reg rfl ?_
    refine .opp (P.bin .g1 .k .add) rfl ?_
    refine .drop .k2 ?_
    refine .opp (P.mov .t0) rfl ?_
    refine .nil ?_
    cases hc5
    obtain ⟨m17, hm18, hn6⟩ := hn6
    exact .rdW ((IntKind.i64.wrap (s1.1 + 1), r15)) () hm18 hn6 (.cons Mm.m0 (.cons Mm.m2 (.cons Mm.m1 .nil))) (.of .nil) .nil
  · rw [if_neg (ne_true_of_eq_false c10)] at hc5
    refine .exit ?_
    refine .thx ?_
    cases hc5
    refine .told (γ := Unit) h hn6 (fun (s1 : Int × ByteArray) _ => [(8, N s1.1), (7, N (if 3 < (if 0 > a1 then 0 else a1) then 3 else if 0 > a1 then 0 else a1)), (0, .string s1.2)]) (fun (s1 : Int × ByteArray) _ => []) (fun (s1 : Int × ByteArray) _ => []) () (.cons Mm.m0 (.cons Mm.m1 (.cons Mm.m2 .nil))) (.of .nil) .nil (fun s1 _ h' => ?_)
    replace h := h'
    refine .thx ?_
    refine .inb ?_
    refine .then ?_
    refine .seq ?_
    refine .reg rfl ?_
    refine .opp (P.mov .t2) rfl ?_
    refine .opp (P.asg .t0) rfl ?_
    refine .nil ?_
    refine .then ?_
    refine .ret ?_
    cases h
    exact .finw () (.r1 rfl (.tmp .g0)) trivial (Ls.of .nil) .nil
attribute [irreducible] ots_Walk
noncomputable def slices_Concat_byte (a0 : List (List UInt8)) : Option ((List UInt8)) :=
  Option.bind (loopR (fun (i3 : Nat) (e6 : List UInt8) (s4 : Int) => if (decide ((IntKind.i64.wrap (s4 + (e6.length : Int))) < 0)) = true then none else (some (.nx (IntKind.i64.wrap (s4 + (e6.length : Int)))))) 0 a0 0) fun o7 => Lo.on o7 fun (s4 : Int) => Option.bind (slices_Grow_byte_nil s4) fun r23 => Option.bind (loopR (fun (i28 : Nat) (e31 : List UInt8) (s29 : (List UInt8)) => grd ((s29.length + e31.length) * 1 ≤ 140737488355328) <| some (.nx (s29 ++ e31))) 0 a0 r23) fun o32 => Lo.on o32 fun (s29 : (List UInt8)) => some s29
set_option maxRecDepth 20000 in
set_option maxHeartbeats 1000000 in
theorem S_slices_Concat_byte (v00 : Value) (a0 : List (List UInt8)) (zl00 : List Value) (r : (List UInt8)) (h : slices_Concat_byte a0 = some r) :
    SpecF Tryz.prog 100 [v00] [] [rows 1 v00 (List.zipWith (fun (_ : List UInt8) z => [z]) a0 zl00), gz (fun (x : List UInt8) z => rows 1 z (x.map (fun x => [B8 x]))) a0 zl00] (fun z : Value => True) (fun z => z) (fun z M => lst 5 1 z (r.map (fun x => [B8 x])) ::  M) (fun z M =>  M) := by
  refine .of func100 rfl ntmps100 rfl fun w0 D0 G0 => ?_
  unfold slices_Concat_byte at h
  refine .seq ?_
  refine .reg rfl ?_
  refine .op0 (OpP.toV (P.asg .k)) rfl ?_
  refine .nil ?_
  refine .then ?_
  refine .seq ?_
  refine .reg rfl ?_
  refine .opp (P.asg .k) rfl ?_
  refine .nil ?_
  refine .then ?_
  refine .seq ?_
  refine .seq ?_
  refine .reg rfl ?_
  refine .opp (P.mov .g1) rfl ?_
  refine .gzl Mm.m1 fun hz1 => ?_
  refine .op (V.lnr (n := a0.length) .g0 Mm.m0 (zip_len hz1) runUnderlying146) rfl ?_
  refine .opp (P.mov .k) rfl ?_
  refine .nil ?_
  refine .then ?_
  refine .block ?_
  obtain ⟨o7, ho8, h⟩ := bnd_eq h
  refine .gzl Mm.m1 fun hz17 => ?_
  refine .lenq Mm.m0 fun hl14 => ?_
  rw [zip_len hz17] at hl14
  refine .loopR (γ := Unit) (fun i3 (s4 : Int) z5 => [(11, N (i3 : Int)), (10, N (a0.length : Int)), (9, v00), (3, N s4), (0, v00)]) (fun (s4 : Int) z5 => []) (fun (s4 : Int) z5 => [gz (fun (x : List UInt8) z => rows 1 z (x.map (fun x => [B8 x]))) a0 zl00, rows 1 v00 (List.zipWith (fun (_ : List UInt8) z => [z]) a0 zl00)]) () ho8 (.cons Mm.m0 (.cons Mm.m1 (.cons Mm.m2 (.cons Mm.m3 (.cons Mm.m4 .nil))))) (.of .nil) (.cons Mm.m1 (.cons Mm.m0 .nil)) (fun i3 s4 z5 hi15 hr11 => ?_)
  refine .seq ?_
  refine .reg rfl ?_
  refine .opp (P.bin (v := Bo (decide ((i3 : Int) < (a0.length : Nat)))) .g0 .g1 .lss) rfl ?_
  refine .nil ?_
  refine .then ?_
  refine .seq ?_
  refine .cond .t0 (fun c16 => ?_) (fun c16 => ?_)
  · obtain ⟨e6, hx13⟩ := get_of c16
    obtain ⟨ct12, hc9, hn10⟩ := loopR_at hx13 hr11
    refine .gzx (D := (fun (_ : List UInt8) z => [z])) (q := fun z_ => rows 1 z_ (e6.map (fun x => [B8 x]))) Mm.m0 hx13 (fun _ => rfl) fun u2 _ hx18 => ?_
    refine .skip ?_
    refine .then ?_
    refine .seq ?_
    refine .block ?_
    refine .seq ?_
    refine .reg rfl ?_
    refine .ixq Mm.m2 hx18 fun p19 q20 hq21 => ?_
    refine .opp (P.ixi (i := i3) .g0 rfl .g2 hq21 runUnderlying146 sizeOf131) rfl ?_
    refine .op (V.ldx0 (u := u2) .t0 hq21 Mm.m2 hx18 (.one isAgg131 rfl)) rfl ?_
    refine .opp (P.asg .t0) rfl ?_
    refine .nil ?_
    refine .then ?_
    refine .seq ?_
    refine .reg rfl ?_
    refine .opp (P.mov .g4) rfl ?_
    refine .opp (P.mov .t1) rfl ?_
    refine .op (V.lnr (n := e6.length) .t0 Mm.m0 map_len runUnderlying131) rfl ?_
    refine .opp (P.bin .t1 .t0 .add) rfl ?_
    refine .drop .k4 ?_
    refine .opp (P.asg .t0) rfl ?_
    refine .nil ?_
    refine .then ?_
    refine .seq ?_
    refine .reg rfl ?_
    refine .opp (P.mov .g0) rfl ?_
    refine .opp (P.bin .t0 .k .lss) rfl ?_
    refine .nil ?_
    refine .then ?_
    refine .cond .t0 (fun c22 => ?_) (fun c22 => ?_)
    · rw [if_pos c22] at hc9
      refine .reg rfl ?_
      cases hc9
    · rw [if_neg (ne_true_of_eq_false c22)] at hc9
      refine .skip ?_
      refine .inn ?_
      refine .then ?_
      refine .reg rfl ?_
      refine .opp (P.bin .g1 .k (.addc (inc_ok (lt_of_get hx13) hl14))) rfl ?_
      refine .drop .k2 ?_
      refine .opp (P.mov .t0) rfl ?_
      refine .nil ?_
      cases hc9
      exact .rdR (IntKind.i64.wrap (s4 + (e6.length : Int))) () hn10 (lt_of_get hx13) (.cons Mm.m0 (.cons Mm.m2 (.cons Mm.m3 (.cons Mm.m1 (.cons Mm.m4 .nil))))) (.of .nil) (.cons Mm.m1 (.cons Mm.m2 .nil))
  · obtain rfl := loopR_end (le_of_not c16) hr11
    have h := dn_on h
    refine .exit ?_
    refine .thx ?_
    refine .thx ?_
    refine .inb ?_
    refine .then ?_
    refine .seq ?_
    refine .reg rfl ?_
    refine .opp (P.mov .t3) rfl ?_
    obtain ⟨r23, hr24, h⟩ := bnd_eq h
    refine .opg (G.call call115 (.cons .k (.cons .t0 .nil)) (S_slices_Grow_byte_nil s4 r23 hr24) .nil .nil (fun _ _ => rfl) (fun _ _ => rfl) rfl) rfl fun u25 _ => ?_
    refine .opp (P.asg .t0) rfl ?_
    refine .nil ?_
    refine .then ?_
    refine .seq ?_
    refine .seq ?_
    refine .reg rfl ?_
    refine .opp (P.mov .t4) rfl ?_
    refine .gzl Mm.m0 fun hz26 => ?_
    refine .op (V.lnr (n := a0.length) .g0 Mm.m1 (zip_len hz26) runUnderlying146) rfl ?_
    refine .opp (P.mov .k) rfl ?_
    refine .nil ?_
    refine .then ?_
    refine .block ?_
    obtain ⟨o32, ho33, h⟩ := bnd_eq h
    refine .gzl Mm.m0 fun hz42 => ?_
    refine .lenq Mm.m1 fun hl39 => ?_
    rw [zip_len hz42] at hl39
    refine .loopR (γ := Value) (fun i28 (s29 : (List UInt8)) z30 => [(27, N (i28 : Int)), (26, N (a0.length : Int)), (25, v00), (6, z30)]) (fun (s29 : (List UInt8)) z30 => [lst 5 1 z30 (s29.map (fun x => [B8 x]))]) (fun (s29 : (List UInt8)) z30 => [gz (fun (x : List UInt8) z => rows 1 z (x.map (fun x => [B8 x]))) a0 zl00, rows 1 v00 (List.zipWith (fun (_ : List UInt8) z => [z]) a0 zl00)]) u25 ho33 (.cons Mm.m0 (.cons Mm.m1 (.cons Mm.m2 (.cons Mm.m3 .nil)))) (.of (.cons .k0 .nil)) (.cons Mm.m0 (.cons Mm.m1 .nil)) (fun i28 s29 z30 hi40 hr36 => ?_)
    refine .seq ?_
    refine .reg rfl ?_
    refine .opp (P.bin (v := Bo (decide ((i28 : Int) < (a0.length : Nat)))) .g0 .g1 .lss) rfl ?_
    refine .nil ?_
    refine .then ?_
    refine .seq ?_
    refine .cond .t0 (fun c41 => ?_) (fun c41 => ?_)
    · obtain ⟨e31, hx38⟩ := get_of c41
      obtain ⟨ct37, hc34, hn35⟩ := loopR_at hx38 hr36
      refine .gzx (D := (fun (_ : List UInt8) z => [z])) (q := fun z_ => rows 1 z_ (e31.map (fun x => [B8 x]))) Mm.m0 hx38 (fun _ => rfl) fun u27 _ hx43 => ?_
      refine .skip ?_
      refine .then ?_
      refine .seq ?_
      refine .block ?_
      refine .seq ?_
      refine .reg rfl ?_
      refine .ixq Mm.m2 hx43 fun p44 q45 hq46 => ?_
      refine .opp (P.ixi (i := i28) .g0 rfl .g2 hq46 runUnderlying146 sizeOf131) rfl ?_
      refine .op (V.ldx0 (u := u27) .t0 hq46 Mm.m2 hx43 (.one isAgg131 rfl)) rfl ?_
      refine .opp (P.asg .t0) rfl ?_
      refine .nil ?_
      refine .then ?_
      refine .reg rfl ?_
      refine .opp (P.mov .g4) rfl ?_
      refine .opp (P.mov .t1) rfl ?_
      obtain ⟨hb48, hc34⟩ := grd_eq hc34
      refine .opg (G.app (by_ := 1) .t1 .t0 .k0 (.inl Mm.m0) runUnderlying131 runUnderlying131 sizeOf5 typeInfo5 rfl rfl zeroValue5 rfl (one_map one_5 _) (by simpa using hb48) rfl) rfl fun u47 _ => ?_
      refine .conseq .k0 (q := lst 5 1 u47 ((s29 ++ e31).map (fun x => [B8 x]))) (fun _ hh => by simpa [List.map_append] using hh) ?_
      refine .drop .k4 ?_
      refine .opp (P.asg .t0) rfl ?_
      refine .nil ?_
      refine .inn ?_
      refine .then ?_
      refine .reg rfl ?_
      refine .opp (P.bin .g1 .k (.addc (inc_ok (lt_of_get hx38) hl39))) rfl ?_
      refine .drop .k2 ?_
      refine .opp (P.mov .t0) rfl ?_
      refine .nil ?_
      cases hc34
      exact .rdR (s29 ++ e31) u47 hn35 (lt_of_get hx38) (.cons Mm.m0 (.cons Mm.m2 (.cons Mm.m3 (.cons Mm.m1 .nil)))) (.of (.cons .k0 .nil)) (.cons Mm.m1 (.cons Mm.m2 .nil))
    · obtain rfl := loopR_end (le_of_not c41) hr36
      have h := dn_on h
      refine .exit ?_
      refine .thx ?_
      refine .thx ?_
      refine .inb ?_
      refine .then ?_
      refine .seq ?_
      refine .reg rfl ?_
      refine .opp (P.mov .t3) rfl ?_
      refine .opp (P.asg .t0) rfl ?_
      refine .nil ?_
      refine .then ?_
      refine .ret ?_
      cases h
      exact .finw z30 (.r1 rfl (.tmp .g0)) trivial (Ls.of (.cons .k0 .nil)) .nil
attribute [irreducible] slices_Concat_byte
noncomputable def blob_Cat (a0 : List (List UInt8)) : Option ((List UInt8)) :=
  Option.bind (slices_Concat_byte a0) fun r1 => some r1
set_option maxRecDepth 20000 in
set_option maxHeartbeats 1000000 in
theorem S_blob_Cat (v00 : Value) (a0 : List (List UInt8)) (zl00 : List Value) (r : (List UInt8)) (h : blob_Cat a0 = some r) :
    SpecF Tryz.prog 91 [v00] [] [rows 1 v00 (List.zipWith (fun (_ : List UInt8) z => [z]) a0 zl00), gz (fun (x : List UInt8) z => rows 1 z (x.map (fun x => [B8 x]))) a0 zl00] (fun z : Value => True) (fun z => z) (fun z M => lst 5 1 z (r.map (fun x => [B8 x])) ::  M) (fun z M =>  M) := by
  refine .of func91 rfl ntmps91 rfl fun w0 D0 G0 => ?_
  unfold blob_Cat at h
  refine .seq ?_
  refine .reg rfl ?_
  refine .op0 (OpP.toV (P.asg .k)) rfl ?_
  refine .nil ?_
  refine .then ?_
  refine .seq ?_
  refine .reg rfl ?_
  refine .opp (P.mov .t0) rfl ?_
  obtain ⟨r1, hr2, h⟩ := bnd_eq h
  refine .opg (G.call call100 (.cons .t0 .nil) (S_slices_Concat_byte v00 a0 zl00 r1 hr2) .nil (.cons Mm.m0 (.cons Mm.m1 .nil)) (fun _ _ => rfl) (fun _ _ => rfl) rfl) rfl fun u3 _ => ?_
  refine .opp (P.asg .t0) rfl ?_
  refine .nil ?_
  refine .then ?_
  refine .ret ?_
  cases h
  exact .finw u3 (.r1 rfl (.tmp .g0)) trivial (Ls.of (.cons .k0 .nil)) .nil
attribute [irreducible] blob_Cat
noncomputable def hash_Text (a0 : List (List UInt8)) : Option (ByteArray) :=
  Option.bind (blob_Cat a0) fun r1 => Option.bind (hash_Sum r1) fun r4 => some (⟨⟨r4⟩⟩ : ByteArray)
set_option maxRecDepth 20000 in
set_option maxHeartbeats 1000000 in
theorem S_hash_Text (v00 : Value) (a0 : List (List UInt8)) (zl00 : List Value) (r : ByteArray) (h : hash_Text a0 = some r) :
    SpecF Tryz.prog 83 [v00] [] [rows 1 v00 (List.zipWith (fun (_ : List UInt8) z => [z]) a0 zl00), gz (fun (x : List UInt8) z => rows 1 z (x.map (fun x => [B8 x]))) a0 zl00] (fun z : Unit => True) (fun z => .string r) (fun z M =>  M) (fun z M =>  M) := by
  refine .of func83 rfl ntmps83 rfl fun w0 D0 G0 => ?_
  unfold hash_Text at h
  refine .seq ?_
  refine .reg rfl ?_
  refine .op0 (OpP.toV (P.asg .k)) rfl ?_
  refine .nil ?_
  refine .then ?_
  refine .seq ?_
  refine .reg rfl ?_
  refine .opp (P.mov .t0) rfl ?_
  obtain ⟨r1, hr2, h⟩ := bnd_eq h
  refine .opg (G.call call91 (.cons .t0 .nil) (S_blob_Cat v00 a0 zl00 r1 hr2) .nil (.cons Mm.m0 (.cons Mm.m1 .nil)) (fun _ _ => rfl) (fun _ _ => rfl) rfl) rfl fun u3 _ => ?_
  refine .frz .k0 ?_
  obtain ⟨r4, hr5, h⟩ := bnd_eq h
  refine .opg (G.call call92 (.cons .t0 .nil) (S_hash_Sum u3 r1 r4 hr5) .nil (.cons Mm.m0 .nil) (fun _ _ => rfl) (fun _ _ => rfl) rfl) rfl fun u6 _ => ?_
  refine .op (V.b2sl (l := r4) (e := 5) .t0 .k0 (by kernel_rfl) (by kernel_rfl) (by kernel_rfl)) rfl ?_
  refine .opp (P.asg .t0) rfl ?_
  refine .nil ?_
  refine .then ?_
  refine .ret ?_
  cases h
  exact .finw () (.r1 rfl (.tmp .g0)) trivial (Ls.of .nil) .nil
attribute [irreducible] hash_Text
noncomputable def hash_Short (a0 : List (List UInt8)) : Option (ByteArray) :=
  Option.bind (hash_Text a0) fun r1 => grd (okS r1.size none (some 8) none) <| some ((r1.extract 0 (8 : Int).toNat))
set_option maxRecDepth 20000 in
set_option maxHeartbeats 1000000 in
theorem S_hash_Short (v00 : Value) (a0 : List (List UInt8)) (zl00 : List Value) (r : ByteArray) (h : hash_Short a0 = some r) :
    SpecF Tryz.prog 121 [v00] [] [rows 1 v00 (List.zipWith (fun (_ : List UInt8) z => [z]) a0 zl00), gz (fun (x : List UInt8) z => rows 1 z (x.map (fun x => [B8 x]))) a0 zl00] (fun z : Unit => True) (fun z => .string r) (fun z M =>  M) (fun z M =>  M) := by
  refine .of func121 rfl ntmps121 rfl fun w0 D0 G0 => ?_
  unfold hash_Short at h
  refine .seq ?_
  refine .reg rfl ?_
  refine .op0 (OpP.toV (P.asg .k)) rfl ?_
  refine .nil ?_
  refine .then ?_
  refine .seq ?_
  refine .reg rfl ?_
  refine .opp (P.mov .t0) rfl ?_
  obtain ⟨r1, hr2, h⟩ := bnd_eq h
  refine .opg (G.call call83 (.cons .t0 .nil) (S_hash_Text v00 a0 zl00 r1 hr2) .nil (.cons Mm.m0 (.cons Mm.m1 .nil)) (fun _ _ => rfl) (fun _ _ => rfl) rfl) rfl fun _ _ => ?_
  obtain ⟨hb3, h⟩ := grd_eq h
  refine .opp (P.slst (li := none) (hj := (some 8)) .t0 .none (.some .k) runUnderlying9 hb3) rfl ?_
  refine .opp (P.asg .t0) rfl ?_
  refine .nil ?_
  refine .then ?_
  refine .ret ?_
  cases h
  exact .finw () (.r1 rfl (.tmp .g0)) trivial (Ls.of .nil) .nil
attribute [irreducible] hash_Short
noncomputable def ots_closed (a0 : List ByteArray) (a1 : List Int) : Option (ByteArray) :=
  Option.bind (loopR (fun (i1 : Nat) (e4 : ByteArray) (s2 : (List (List UInt8))) => Option.bind (at_ a1 (i1 : Int)) fun (x21 : Int) => Option.bind (ots_Walk e4 (IntKind.i64.wrap (3 - x21))) fun r25 => grd (r25.size ≤ 140737488355328) <| grd ((s2.length + ([(r25.data.toList)] : List (List UInt8)).length) * 24 ≤ 140737488355328) <| some (.nx ((s2 ++ ([(r25.data.toList)] : List (List UInt8)))))) 0 a0 ([])) fun o5 => Lo.on o5 fun (s2 : (List (List UInt8))) => Option.bind (hash_Short s2) fun r35 => some r35
set_option maxRecDepth 20000 in
set_option maxHeartbeats 1000000 in
theorem S_ots_closed (v00 : Value) (a0 : List ByteArray) (v01 : Value) (a1 : List Int) (r : ByteArray) (h : ots_closed a0 a1 = some r) :
    SpecF Tryz.prog 113 [v00, v01] [] [rows 1 v00 (a0.map (fun x => [.string x])), rows 1 v01 (a1.map (fun x => [N x]))] (fun z : Unit => True) (fun z => .string r) (fun z M =>  M) (fun z M =>  M) := by
  refine .of func113 rfl ntmps113 rfl fun w0 D0 G0 => ?_
  unfold ots_closed at h
  refine .seq ?_
  refine .reg rfl ?_
  refine .op0 (OpP.toV (P.asg .k)) rfl ?_
  refine .nil ?_
  refine .then ?_
  refine .seq ?_
  refine .reg rfl ?_
  refine .opp (P.asg .k) rfl ?_
  refine .nil ?_
  refine .then ?_
  refine .seq ?_
  refine .seq ?_
  refine .reg rfl ?_
  refine .opp (P.mov .t1) rfl ?_
  refine .op (V.lnr (n := a0.length) .g0 Mm.m0 map_len runUnderlying152) rfl ?_
  refine .opp (P.mov .k) rfl ?_
  refine .nil ?_
  refine .then ?_
  refine .block ?_
  refine .lnil 131 1 ?_
  refine .gzn (G := (fun (x : List UInt8) z => rows 1 z (x.map (fun x => [B8 x])))) ?_
  obtain ⟨o5, ho6, h⟩ := bnd_eq h
  refine .lenq Mm.m1 fun hl12 => ?_
  rw [map_len] at hl12
  refine .loopR (γ := Value × List Value) (fun i1 (s2 : (List (List UInt8))) z3 => [(10, N (i1 : Int)), (9, N (a0.length : Int)), (8, v00), (5, z3.1), (1, v01)]) (fun (s2 : (List (List UInt8))) z3 => [lst 131 1 z3.1 (List.zipWith (fun (_ : List UInt8) z => [z]) s2 z3.2)]) (fun (s2 : (List (List UInt8))) z3 => [rows 1 v00 (a0.map (fun x => [.string x])), gz (fun (x : List UInt8) z => rows 1 z (x.map (fun x => [B8 x]))) s2 z3.2, rows 1 v01 (a1.map (fun x => [N x]))]) ⟨nilSl, []⟩ ho6 (.cons Mm.m0 (.cons Mm.m1 (.cons Mm.m2 (.cons Mm.m3 (.cons Mm.m4 .nil))))) (.of (.cons .k0 .nil)) (.cons Mm.m1 (.cons Mm.m0 (.cons Mm.m2 .nil))) (fun i1 s2 z3 hi13 hr9 => ?_)
  refine .seq ?_
  refine .reg rfl ?_
  refine .opp (P.bin (v := Bo (decide ((i1 : Int) < (a0.length : Nat)))) .g0 .g1 .lss) rfl ?_
  refine .nil ?_
  refine .then ?_
  refine .seq ?_
  refine .cond .t0 (fun c14 => ?_) (fun c14 => ?_)
  · obtain ⟨e4, hx11⟩ := get_of c14
    obtain ⟨ct10, hc7, hn8⟩ := loopR_at hx11 hr9
    refine .skip ?_
    refine .then ?_
    refine .seq ?_
    refine .block ?_
    refine .seq ?_
    refine .reg rfl ?_
    refine .opp (P.mov .g0) rfl ?_
    refine .ixq Mm.m0 (map_get hx11) fun p15 q16 hq17 => ?_
    refine .opp (P.ixi (i := i1) .g1 rfl .g3 hq17 runUnderlying152 sizeOf9) rfl ?_
    refine .op (V.ldx0 (u := .string e4) .t0 hq17 Mm.m0 (map_get hx11) (.one isAgg9 rfl)) rfl ?_
    refine .opp (P.asg .t1) rfl ?_
    refine .opp (P.asg .t1) rfl ?_
    refine .nil ?_
    refine .then ?_
    refine .reg rfl ?_
    refine .opp (P.mov .g5) rfl ?_
    refine .opp (P.mov .t1) rfl ?_
    refine .opp (P.mov .g7) rfl ?_
    refine .opp (P.mov .t3) rfl ?_
    obtain ⟨x21, hx22, hc7⟩ := bnd_eq hc7
    obtain ⟨i23, hi24, hx22⟩ := at_eq hx22
    have hi24_ : ((i1 : Int)).toNat = i23 := by rw [hi24]; rfl
    refine .ixq Mm.m2 (map_get hx22) fun p18 q19 hq20 => ?_
    refine .opp (P.ixi (i := i23) .t0 hi24 .t0 hq20 runUnderlying23 sizeOf3) rfl ?_
    refine .op (V.ldx0 (u := N x21) .t0 hq20 Mm.m2 (map_get hx22) (.one isAgg3 rfl)) rfl ?_
    refine .opp (P.bin .k .t0 .sub) rfl ?_
    obtain ⟨r25, hr26, hc7⟩ := bnd_eq hc7
    refine .opg (G.call call123 (.cons .t1 (.cons .t0 .nil)) (S_ots_Walk e4 (IntKind.i64.wrap (3 - x21)) r25 hr26) .nil .nil (fun _ _ => rfl) (fun _ _ => rfl) rfl) rfl fun _ _ => ?_
    obtain ⟨hb28, hc7⟩ := grd_eq hc7
    refine .opg (G.s2b (e := 5) .t0 (by kernel_rfl) (by kernel_rfl) (by kernel_rfl) hb28 rfl) rfl fun u27 _ => ?_
    refine .oner Mm.m0 fun ho30 => ?_
    refine .opg (G.bsl (cs := [u27]) .t0 runUnderlying146 sizeOf131 zeroValue131 (cells1 ho30) rfl rfl rfl rfl) rfl fun u29 _ => ?_
    refine .gzl Mm.m2 fun hz32 => ?_
    refine .gzn (G := (fun (x : List UInt8) z => rows 1 z (x.map (fun x => [B8 x])))) ?_
    refine .gzc (x := (r25.data.toList)) (z := u27) Mm.m0 rfl ?_
    refine .gzo (D := (fun (_ : List UInt8) z => [z])) Mm.m0 (fun _ _ _ h => rows_one h) (fun _ _ h => onez h) fun ho33 => ?_
    refine .gza Mm.m3 Mm.m0 ?_
    obtain ⟨hb34, hc7⟩ := grd_eq hc7
    refine .opg (G.app (by_ := 24) .t1 .t0 .k1 (.inr (.inr ⟨_, Mm.m0⟩)) runUnderlying146 runUnderlying146 sizeOf131 typeInfo131 rfl rfl zeroValue131 rfl ho33 (by simpa [zip_len hz32] using hb34) rfl) rfl fun u31 _ => ?_
    refine .conseq .k0 (q := lst 131 1 u31 (List.zipWith (fun (_ : List UInt8) z => [z]) (s2 ++ ([(r25.data.toList)] : List (List UInt8))) (z3.2 ++ [u27]))) (fun _ hh => by simpa [zip_app hz32] using hh) ?_
    refine .drop .k4 ?_
    refine .opp (P.asg .t0) rfl ?_
    refine .nil ?_
    refine .inn ?_
    refine .then ?_
    refine .reg rfl ?_
    refine .opp (P.bin .g1 .k (.addc (inc_ok (lt_of_get hx11) hl12))) rfl ?_
    refine .drop .k2 ?_
    refine .opp (P.mov .t0) rfl ?_
    refine .nil ?_
    cases hc7
    exact .rdR ((s2 ++ ([(r25.data.toList)] : List (List UInt8)))) ⟨u31, (z3.2 ++ [u27])⟩ hn8 (lt_of_get hx11) (.cons Mm.m0 (.cons Mm.m2 (.cons Mm.m3 (.cons Mm.m1 (.cons Mm.m4 .nil))))) (.of (.cons .k0 .nil)) (.cons Mm.m3 (.cons Mm.m0 (.cons Mm.m5 .nil)))
  · obtain rfl := loopR_end (le_of_not c14) hr9
    have h := dn_on h
    refine .exit ?_
    refine .thx ?_
    refine .thx ?_
    refine .inb ?_
    refine .then ?_
    refine .seq ?_
    refine .reg rfl ?_
    refine .opp (P.mov .t3) rfl ?_
    refine .frz .k0 ?_
    obtain ⟨r35, hr36, h⟩ := bnd_eq h
    refine .opg (G.call call121 (.cons .t0 .nil) (S_hash_Short z3.1 s2 z3.2 r35 hr36) .nil (.cons Mm.m0 (.cons Mm.m2 .nil)) (fun _ _ => rfl) (fun _ _ => rfl) rfl) rfl fun _ _ => ?_
    refine .opp (P.asg .t0) rfl ?_
    refine .nil ?_
    refine .then ?_
    refine .ret ?_
    cases h
    exact .finw () (.r1 rfl (.tmp .g0)) trivial (Ls.of .nil) .nil
attribute [irreducible] ots_closed
noncomputable def ots_Open (a0 : List UInt8) (a1 : List ByteArray) : Option (ByteArray) :=
  Option.bind (slices_ContainsFunc_string_ots_Open_1 a1) fun r1 => thn (if (decide ((a1.length : Int) ≠ 15)) = true then true else r1) fun (y3 : Bool) => if y3 = true then (some ⟨#[]⟩) else (Option.bind (ots_Digits a0) fun r8 => Option.bind (ots_closed a1 r8) fun r11 => some r11)
set_option maxRecDepth 20000 in
set_option maxHeartbeats 1000000 in
theorem S_ots_Open (v00 : Value) (a0 : List UInt8) (v01 : Value) (a1 : List ByteArray) (r : ByteArray) (h : ots_Open a0 a1 = some r) :
    SpecF Tryz.prog 99 [v00, v01] [] [rows 1 v00 (a0.map (fun x => [B8 x])), rows 1 v01 (a1.map (fun x => [.string x]))] (fun z : Unit => True) (fun z => .string r) (fun z M =>  M) (fun z M =>  M) := by
  refine .of func99 rfl ntmps99 rfl fun w0 D0 G0 => ?_
  unfold ots_Open at h
  refine .seq ?_
  refine .reg rfl ?_
  refine .op0 (OpP.toV (P.asg .k)) rfl ?_
  refine .nil ?_
  refine .then ?_
  refine .seq ?_
  refine .reg rfl ?_
  refine .opp (P.mov .g1) rfl ?_
  obtain ⟨r1, hr2, h⟩ := bnd_eq h
  refine .opg (G.call call111 (.cons .t0 (.cons .f .nil)) (S_slices_ContainsFunc_string_ots_Open_1 v01 a1 r1 hr2) .nil (.cons Mm.m1 .nil) (fun _ _ => rfl) (fun _ _ => rfl) rfl) rfl fun _ _ => ?_
  refine .opp (P.asg .t0) rfl ?_
  refine .nil ?_
  refine .then ?_
  refine .seq ?_
  obtain ⟨y3, hj5, h⟩ := thn_eq h
  refine .cutx (γ := Unit) (E1 := fun z4 => [(13, Bo y3), (0, v00), (1, v01)]) (L1 := fun z4 => []) (R1 := fun z4 => [rows 1 v00 (a0.map (fun x => [B8 x])), rows 1 v01 (a1.map (fun x => [.string x]))]) ?_ (fun z4 => ?_)
  · clear h
    refine .reg rfl ?_
    refine .opp (P.mov .g2) rfl ?_
    refine .op (V.lnr (n := a1.length) .t0 Mm.m1 map_len runUnderlying152) rfl ?_
    refine .opp (P.bin .t0 .k .neq) rfl ?_
    refine .opp (P.mov .t0) rfl ?_
    refine .split .k0 (fun c6 => ?_) (fun c6 => ?_)
    · rw [if_pos c6] at hj5
      refine .gno rfl .g0 rfl rfl ?_
      refine .opp (P.pickT .t0 .k) rfl ?_
      refine .nil ?_
      subst hj5
      exact .stj () (.cons Mm.m0 (.cons Mm.m2 (.cons Mm.m3 .nil))) (.of .nil) (.cons Mm.m0 (.cons Mm.m1 .nil))
    · rw [if_neg (ne_true_of_eq_false c6)] at hj5
      refine .gyes rfl .g0 ?_
      refine .opp (P.mov .t1) rfl ?_
      refine .opp (P.pickF .t1 .t0) rfl ?_
      refine .nil ?_
      subst hj5
      exact .stj () (.cons Mm.m0 (.cons Mm.m1 (.cons Mm.m2 .nil))) (.of .nil) (.cons Mm.m0 (.cons Mm.m1 .nil))
  · clear hj5
    refine .cond .t0 (fun c7 => ?_) (fun c7 => ?_)
    · rw [if_pos c7] at h
      refine .seq ?_
      refine .reg rfl ?_
      refine .opp (P.asg .k) rfl ?_
      refine .nil ?_
      refine .then ?_
      refine .ret ?_
      refine .thr ?_
      cases h
      exact .finw () (.r1 rfl (.tmp .g0)) trivial (Ls.of .nil) .nil
    · rw [if_neg (ne_true_of_eq_false c7)] at h
      refine .skip ?_
      refine .then ?_
      refine .seq ?_
      refine .reg rfl ?_
      refine .opp (P.mov .t1) rfl ?_
      refine .opp (P.mov .t1) rfl ?_
      obtain ⟨r8, hr9, h⟩ := bnd_eq h
      refine .opg (G.call call114 (.cons .t0 .nil) (S_ots_Digits v00 a0 r8 hr9) .nil (.cons Mm.m0 .nil) (fun _ _ => rfl) (fun _ _ => rfl) rfl) rfl fun u10 _ => ?_
      refine .frz .k0 ?_
      obtain ⟨r11, hr12, h⟩ := bnd_eq h
      refine .opg (G.call call113 (.cons .t1 (.cons .t0 .nil)) (S_ots_closed v01 a1 u10 r8 r11 hr12) .nil (.cons Mm.m2 (.cons Mm.m0 .nil)) (fun _ _ => rfl) (fun _ _ => rfl) rfl) rfl fun _ _ => ?_
      refine .opp (P.asg .t0) rfl ?_
      refine .nil ?_
      refine .then ?_
      refine .ret ?_
      cases h
      exact .finw () (.r1 rfl (.tmp .g0)) trivial (Ls.of .nil) .nil
attribute [irreducible] ots_Open
noncomputable def hash_Text_n2 (a0a : List UInt8) (a0b : List UInt8) : Option (ByteArray) :=
  Option.bind (blob_Cat_n2 a0a a0b) fun r1 => Option.bind (hash_Sum r1) fun r4 => some (⟨⟨r4⟩⟩ : ByteArray)
set_option maxRecDepth 20000 in
set_option maxHeartbeats 1000000 in
theorem S_hash_Text_n2 (v00 : Value) (z00a : Value) (a0a : List UInt8) (z00b : Value) (a0b : List UInt8) (r : ByteArray) (h : hash_Text_n2 a0a a0b = some r) :
    SpecF Tryz.prog 83 [v00] [] [rows 1 v00 [[z00a], [z00b]], rows 1 z00a (a0a.map (fun x => [B8 x])), rows 1 z00b (a0b.map (fun x => [B8 x]))] (fun z : Unit => True) (fun z => .string r) (fun z M =>  M) (fun z M =>  M) := by
  refine .of func83 rfl ntmps83 rfl fun w0 D0 G0 => ?_
  unfold hash_Text_n2 at h
  refine .seq ?_
  refine .reg rfl ?_
  refine .op0 (OpP.toV (P.asg .k)) rfl ?_
  refine .nil ?_
  refine .then ?_
  refine .seq ?_
  refine .reg rfl ?_
  refine .opp (P.mov .t0) rfl ?_
  obtain ⟨r1, hr2, h⟩ := bnd_eq h
  refine .opg (G.call call91 (.cons .t0 .nil) (S_blob_Cat_n2 v00 z00a a0a z00b a0b r1 hr2) .nil (.cons Mm.m0 (.cons Mm.m1 (.cons Mm.m2 .nil))) (fun _ _ => rfl) (fun _ _ => rfl) rfl) rfl fun u3 _ => ?_
  refine .frz .k0 ?_
  obtain ⟨r4, hr5, h⟩ := bnd_eq h
  refine .opg (G.call call92 (.cons .t0 .nil) (S_hash_Sum u3 r1 r4 hr5) .nil (.cons Mm.m0 .nil) (fun _ _ => rfl) (fun _ _ => rfl) rfl) rfl fun u6 _ => ?_
  refine .op (V.b2sl (l := r4) (e := 5) .t0 .k0 (by kernel_rfl) (by kernel_rfl) (by kernel_rfl)) rfl ?_
  refine .opp (P.asg .t0) rfl ?_
  refine .nil ?_
  refine .then ?_
  refine .ret ?_
  cases h
  exact .finw () (.r1 rfl (.tmp .g0)) trivial (Ls.of .nil) .nil
attribute [irreducible] hash_Text_n2
noncomputable def hash_Short_n2 (a0a : List UInt8) (a0b : List UInt8) : Option (ByteArray) :=
  Option.bind (hash_Text_n2 a0a a0b) fun r1 => grd (okS r1.size none (some 8) none) <| some ((r1.extract 0 (8 : Int).toNat))
set_option maxRecDepth 20000 in
set_option maxHeartbeats 1000000 in
theorem S_hash_Short_n2 (v00 : Value) (z00a : Value) (a0a : List UInt8) (z00b : Value) (a0b : List UInt8) (r : ByteArray) (h : hash_Short_n2 a0a a0b = some r) :
    SpecF Tryz.prog 121 [v00] [] [rows 1 v00 [[z00a], [z00b]], rows 1 z00a (a0a.map (fun x => [B8 x])), rows 1 z00b (a0b.map (fun x => [B8 x]))] (fun z : Unit => True) (fun z => .string r) (fun z M =>  M) (fun z M =>  M) := by
  refine .of func121 rfl ntmps121 rfl fun w0 D0 G0 => ?_
  unfold hash_Short_n2 at h
  refine .seq ?_
  refine .reg rfl ?_
  refine .op0 (OpP.toV (P.asg .k)) rfl ?_
  refine .nil ?_
  refine .then ?_
  refine .seq ?_
  refine .reg rfl ?_
  refine .opp (P.mov .t0) rfl ?_
  obtain ⟨r1, hr2, h⟩ := bnd_eq h
  refine .opg (G.call call83 (.cons .t0 .nil) (S_hash_Text_n2 v00 z00a a0a z00b a0b r1 hr2) .nil (.cons Mm.m0 (.cons Mm.m1 (.cons Mm.m2 .nil))) (fun _ _ => rfl) (fun _ _ => rfl) rfl) rfl fun _ _ => ?_
  obtain ⟨hb3, h⟩ := grd_eq h
  refine .opp (P.slst (li := none) (hj := (some 8)) .t0 .none (.some .k) runUnderlying9 hb3) rfl ?_
  refine .opp (P.asg .t0) rfl ?_
  refine .nil ?_
  refine .then ?_
  refine .ret ?_
  cases h
  exact .finw () (.r1 rfl (.tmp .g0)) trivial (Ls.of .nil) .nil
attribute [irreducible] hash_Short_n2
end Go.Sl
