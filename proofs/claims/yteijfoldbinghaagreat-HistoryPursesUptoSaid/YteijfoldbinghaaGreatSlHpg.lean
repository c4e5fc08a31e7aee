/- Walked code of the program, its pure functions and their contracts. -/
import Derived.Test.YteijfoldbinghaaGreatSlHpf
set_option linter.unusedVariables false
set_option linter.unusedSimpArgs false
namespace Go.Sl
open Go.Proofs Go.Proofs.Tryz
theorem fa_62_2 : FaV Tryz.prog 62 2 152 := .mk runUnderlying62 rfl sizeOf48 rfl rfl
theorem pl_70 : ∀ w, ((#[{ name := "Time", type := 3, offset := 0, embedded := false, tag := "", pkgPath := "", byteOffset := 0 }, { name := "Code", type := 63, offset := 1, embedded := false, tag := "", pkgPath := "", byteOffset := 8 }, { name := "Tx", type := 36, offset := 2, embedded := false, tag := "", pkgPath := "", byteOffset := 16 }] : Array Field).mapM fun f => do pure (f.offset, ← sizeOf f.type) : Sem (Array (Nat × Nat))).run Tryz.prog w = .ok #[(0, 1), (1, 1), (2, 25)] w := fun w => by simp [sizeOf3, sizeOf36, sizeOf63]
theorem one_70 (x : api_Event) : oneAll (api_Event.cs x) = true := rfl
noncomputable def chain_Chain_Include (a0 : chain_Chain) (a1 : Int) : Option (Bool × chain_Chain) :=
  thn (if (!(chain_Chain_is a0)) = true then true else (decide ((a0.pool.length : Int) = 0))) fun (y1 : Bool) => if y1 = true then (some (false, a0)) else (grd ((a0.pool.length : Int) ≠ 0) <| grd ((a0.pool.length : Int) ≠ 0) <| Option.bind (at_ a0.pool (Int.tmod (IntKind.i64.wrap ((Int.tmod a1 (a0.pool.length : Int)) + (a0.pool.length : Int))) (a0.pool.length : Int))) fun (x11 : api_Tx) => Option.bind (escrow_Apply a0.s x11) fun r16 => if (!r16.2.2) = true then (some (false, a0)) else (Option.bind (slices_Delete_api_Tx_o a0.pool (Int.tmod (IntKind.i64.wrap ((Int.tmod a1 (a0.pool.length : Int)) + (a0.pool.length : Int))) (a0.pool.length : Int)) (IntKind.i64.wrap ((Int.tmod (IntKind.i64.wrap ((Int.tmod a1 (a0.pool.length : Int)) + (a0.pool.length : Int))) (a0.pool.length : Int)) + 1))) fun r23 => grd ((a0.events.length + ([⟨r16.1.Time, r16.2.1, x11⟩] : List api_Event).length) * 240 ≤ 140737488355328) <| some ((true, (⟨r16.1, r23, (a0.events ++ ([⟨r16.1.Time, r16.2.1, x11⟩] : List api_Event)), a0.made⟩ : chain_Chain)))))
set_option maxRecDepth 20000 in
set_option maxHeartbeats 1000000 in
theorem S_chain_Chain_Include (b00 : Nat) (a0 : chain_Chain) (z00a z00b z00c : Value) (a1 : Int) (r : Bool × chain_Chain) (h : chain_Chain_Include a0 a1 = some r) :
    SpecF Tryz.prog 9 [pt b00 0, N a1] [blk b00 62 (chain_Chain.cs a0 z00a z00b z00c), lst 76 3 z00a (a0.s.Locks.map escrow_Lock.cs), lst 36 25 z00b (a0.pool.map api_Tx.cs), lst 70 27 z00c (a0.events.map api_Event.cs)] [] (fun z : Value × Value × Value => True) (fun z => Bo r.1) (fun z M => blk b00 62 (chain_Chain.cs r.2 z.1 z.2.1 z.2.2) :: lst 76 3 z.1 (r.2.s.Locks.map escrow_Lock.cs) :: lst 36 25 z.2.1 (r.2.pool.map api_Tx.cs) :: lst 70 27 z.2.2 (r.2.events.map api_Event.cs) ::  M) (fun z M =>  M) := by
  refine .of func9 rfl ntmps9 rfl fun w0 D0 G0 => ?_
  unfold chain_Chain_Include at h
  refine .seq ?_
  refine .reg rfl ?_
  refine .op0 (OpP.toV (P.asg .k)) rfl ?_
  refine .nil ?_
  refine .then ?_
  refine .seq ?_
  obtain ⟨y1, hj3, h⟩ := thn_eq h
  refine .cutx (γ := Unit) (E1 := fun z2 => [(20, Bo y1), (0, pt b00 0), (1, N a1)]) (L1 := fun z2 => [blk b00 62 (chain_Chain.cs a0 z00a z00b z00c), lst 76 3 z00a (a0.s.Locks.map escrow_Lock.cs), lst 36 25 z00b (a0.pool.map api_Tx.cs), lst 70 27 z00c (a0.events.map api_Event.cs)]) (R1 := fun z2 => []) ?_ (fun z2 => ?_)
  · clear h
    refine .reg rfl ?_
    refine .opp (P.mov .g0) rfl ?_
    refine .opg (G.call call25 (.cons .t0 .nil) (S_chain_Chain_is b00 a0 z00a z00b z00c _ rfl) (.cons .k0 (.cons .k0 (.cons .k0 (.cons .k0 .nil)))) .nil (fun _ _ => rfl) (fun _ _ => rfl) rfl) rfl fun _ _ => ?_
    refine .opp (P.not .t0) rfl ?_
    refine .opp (P.mov .t0) rfl ?_
    refine .split .k0 (fun c4 => ?_) (fun c4 => ?_)
    · rw [if_pos c4] at hj3
      refine .gno rfl .g0 rfl rfl ?_
      refine .gno rfl .g0 rfl rfl ?_
      refine .gno rfl .g0 rfl rfl ?_
      refine .gno rfl .g0 rfl rfl ?_
      refine .gno rfl .g0 rfl rfl ?_
      refine .gno rfl .g0 rfl rfl ?_
      refine .opp (P.pickT .t0 .k) rfl ?_
      refine .nil ?_
      subst hj3
      exact .stj () (.cons Mm.m0 (.cons Mm.m1 (.cons Mm.m2 .nil))) (.of (.cons .k0 (.cons .k0 (.cons .k0 (.cons .k0 .nil))))) .nil
    · rw [if_neg (ne_true_of_eq_false c4)] at hj3
      refine .gyes rfl .g0 ?_
      refine .opp (P.mov .g1) rfl ?_
      refine .gyes rfl .g1 ?_
      refine .opp (P.nilc .t0) rfl ?_
      refine .gyes rfl .g1 ?_
      refine .opp (P.fa .t0 fa_62_1 rfl) rfl ?_
      refine .gyes rfl .g1 ?_
      refine .op (V.ld (v := z00b) .t0 .k0 (.one isAgg22 rfl)) rfl ?_
      refine .gyes rfl .g1 ?_
      refine .op (V.lnl (n := a0.pool.length) .t0 .k2 map_len runUnderlying22) rfl ?_
      refine .gyes rfl .g1 ?_
      refine .opp (P.bin .t0 .k .eql) rfl ?_
      refine .opp (P.pickF .t1 .t0) rfl ?_
      refine .nil ?_
      subst hj3
      exact .stj () (.cons Mm.m0 (.cons Mm.m1 (.cons Mm.m2 .nil))) (.of (.cons .k0 (.cons .k0 (.cons .k0 (.cons .k0 .nil))))) .nil
  · clear hj3
    refine .cond .t0 (fun c5 => ?_) (fun c5 => ?_)
    · rw [if_pos c5] at h
      refine .seq ?_
      refine .reg rfl ?_
      refine .opp (P.asg .k) rfl ?_
      refine .nil ?_
      refine .then ?_
      refine .ret ?_
      refine .thr ?_
      cases h
      exact .finw ⟨z00a, z00b, z00c⟩ (.r1 rfl (.tmp .g0)) trivial (Ls.of (.cons .k0 (.cons .k0 (.cons .k0 (.cons .k0 .nil))))) .nil
    · rw [if_neg (ne_true_of_eq_false c5)] at h
      refine .skip ?_
      refine .then ?_
      refine .seq ?_
      refine .reg rfl ?_
      refine .opp (P.mov .g0) rfl ?_
      refine .opp (P.nilc .t0) rfl ?_
      refine .opp (P.fa .t0 fa_62_1 rfl) rfl ?_
      refine .op (V.ld (v := z00b) .t0 .k0 (.one isAgg22 rfl)) rfl ?_
      refine .op (V.lnl (n := a0.pool.length) .t0 .k2 map_len runUnderlying22) rfl ?_
      refine .opp (P.asg .t0) rfl ?_
      refine .nil ?_
      refine .then ?_
      refine .seq ?_
      refine .reg rfl ?_
      refine .opp (P.mov .g2) rfl ?_
      refine .opp (P.mov .g1) rfl ?_
      obtain ⟨hb6, h⟩ := grd_eq h
      refine .opp (P.bin .t1 .t0 (.rem hb6)) rfl ?_
      refine .opp (P.mov .g1) rfl ?_
      refine .opp (P.bin .t1 .t0 .add) rfl ?_
      refine .opp (P.mov .t1) rfl ?_
      obtain ⟨hb7, h⟩ := grd_eq h
      refine .opp (P.bin .t1 .t0 (.rem hb7)) rfl ?_
      refine .drop .k2 ?_
      refine .opp (P.asg .t0) rfl ?_
      refine .nil ?_
      refine .then ?_
      refine .seq ?_
      refine .reg rfl ?_
      refine .opp (P.mov .g1) rfl ?_
      refine .opp (P.nilc .t0) rfl ?_
      refine .opp (P.fa .t0 fa_62_1 rfl) rfl ?_
      refine .op (V.ld (v := z00b) .t0 .k0 (.one isAgg22 rfl)) rfl ?_
      refine .opp (P.mov .g1) rfl ?_
      obtain ⟨x11, hx12, h⟩ := bnd_eq h
      obtain ⟨i13, hi14, hx12⟩ := at_eq hx12
      have hi14_ : (Int.tmod (IntKind.i64.wrap ((Int.tmod a1 (a0.pool.length : Int)) + (a0.pool.length : Int))) (a0.pool.length : Int)).toNat = i13 := by rw [hi14]; rfl
      refine .ixql .k2 (map_get hx12) fun p8 q9 hq10 => ?_
      refine .opp (P.ixi (i := i13) .t0 hi14 .t0 hq10 runUnderlying22 sizeOf36) rfl ?_
      refine .op (V.ldxl0 (u := Ag (api_Tx.cs x11)) .t0 hq10 .k2 (map_get hx12) (.agg isAgg36 sizeOf36 rfl rfl)) rfl ?_
      refine .opx (X.alc (cs := (api_Tx.cs ⟨0, 0, 0, 0, ⟨0, 0, 0, 0⟩, ⟨0, ⟨#[]⟩, 0, 0, 0, 0, ⟨#[]⟩⟩, ⟨⟨0, 0, 0, 0⟩, 0⟩, ⟨0, 0, 0, 0⟩, ⟨#[]⟩⟩)) zeroValue36 rfl) rfl fun b15 => ?_
      refine .opg (G.str .t1 .g0 .k0 (.mk (cs' := (api_Tx.cs x11)) sizeOf36 rfl rfl rfl rfl)) rfl fun _ _ => ?_
      refine .nil ?_
      refine .then ?_
      refine .seq ?_
      obtain ⟨r16, hr17, h⟩ := bnd_eq h
      refine .dcut (γ := Value × Nat) (φ := fun _ => True) (E1 := fun x_ => [(9, Bo r16.2.2), (8, N r16.2.1), (7, pt x_.2 0), (6, pt b15 0), (1, N (Int.tmod (IntKind.i64.wrap ((Int.tmod a1 (a0.pool.length : Int)) + (a0.pool.length : Int))) (a0.pool.length : Int))), (0, pt b00 0)]) (L1 := fun x_ => [blk x_.2 45 (escrow_State.cs r16.1 x_.1), lst 76 3 x_.1 (r16.1.Locks.map escrow_Lock.cs), blk b15 36 (api_Tx.cs x11), blk b00 62 (chain_Chain.cs a0 z00a z00b z00c), lst 76 3 z00a (a0.s.Locks.map escrow_Lock.cs), lst 36 25 z00b (a0.pool.map api_Tx.cs), lst 70 27 z00c (a0.events.map api_Event.cs)]) (R1 := fun x_ => []) ?_ (fun x_ _ => ?_)
      · refine .draw 14 (.on 0 .pu (.on 1 .pu (.on 2 .pu (.on 3 .ld (.on 4 .ld (.fk 5 10 (.on 6 .pu (.on 7 .pu (.on 8 .pu (.on 9 .pu (.on 10 .go (.on 11 .go (.on 12 .go (.on 13 .go .nl)))))))) (.on 5 .go (.on 6 .pu (.on 7 .pu (.on 8 .pu (.on 9 .pu (.on 11 .go (.on 12 .go (.on 13 .go .nl)))))))))))))) follows_mixed (.thn (.thn .body)) (by kernel_rfl) ?_
        refine .dpu rfl (.n rfl) (P.mov .g2) rfl rfl ?_
        refine .dpu rfl (.n rfl) (P.nilc .t0) rfl rfl ?_
        refine .dpu rfl (.n rfl) (P.fa .t0 fa_62_0 rfl) rfl rfl ?_
        refine .dld rfl (.n rfl) (V.ld (v := Ag (escrow_State.cs a0.s z00a)) .t0 .k1 (.agg isAgg45 sizeOf45 rfl rfl)) (fun _ h => h) rfl rfl ?_
        refine .dld rfl (.n rfl) (V.ld (v := Ag (api_Tx.cs x11)) .g1 .k0 (.agg isAgg36 sizeOf36 rfl rfl)) (fun _ h => h) rfl rfl ?_
        refine .dfk ?_ ?_
        · refine .dgo rfl (.n rfl) (G.calll call28 (.cons .t1 (.cons .t0 .nil)) (S_escrow_Apply a0.s z00a x11 r16 hr17) .nil (.imp (List.mem_append_right _ Mm.m2) (fun _ => lst_rows) .nil) (fun _ _ => rfl) rfl) (.inr fun _ _ _ h => (h.imp (Ls.of (.cons .k1 (.cons .k1 (.cons .k1 (.cons .k1 (.cons .k1 .nil))))))).ro Rs.nil) fun u18 _ => ?_
          refine .dpu rfl (.n rfl) (P.mov .t0) rfl rfl ?_
          refine .dpu rfl (.n rfl) (P.ext (v := Ag (escrow_State.cs r16.1 u18)) .g0 rfl) rfl rfl ?_
          refine .dpu rfl (.n rfl) (P.ext (v := N r16.2.1) .g1 rfl) rfl rfl ?_
          refine .dpu rfl (.n rfl) (P.ext (v := Bo r16.2.2) .t2 rfl) rfl rfl ?_
          refine .dgo rfl (.n rfl) (OpX.g (X.alc (cs := (escrow_State.cs ⟨0, 0, ⟨⟨⟨0, 0, 0, 0⟩, ⟨0, 0, 0, 0⟩⟩, ⟨⟨0, 0, 0, 0⟩, ⟨0, 0, 0, 0⟩⟩, ⟨⟨0, 0, 0, 0⟩, ⟨0, 0, 0, 0⟩⟩, ⟨⟨0, 0, 0, 0⟩, ⟨0, 0, 0, 0⟩⟩, ⟨⟨0, 0, 0, 0⟩, ⟨0, 0, 0, 0⟩⟩, ⟨⟨0, 0, 0, 0⟩, ⟨0, 0, 0, 0⟩⟩, ⟨⟨0, 0, 0, 0⟩, ⟨0, 0, 0, 0⟩⟩, ⟨⟨0, 0, 0, 0⟩, ⟨0, 0, 0, 0⟩⟩⟩, ⟨⟨⟨0, 0, 0, 0⟩, ⟨0, 0, 0, 0⟩⟩, ⟨⟨0, 0, 0, 0⟩, ⟨0, 0, 0, 0⟩⟩, ⟨⟨0, 0, 0, 0⟩, ⟨0, 0, 0, 0⟩⟩, ⟨⟨0, 0, 0, 0⟩, ⟨0, 0, 0, 0⟩⟩, ⟨⟨0, 0, 0, 0⟩, ⟨0, 0, 0, 0⟩⟩, ⟨⟨0, 0, 0, 0⟩, ⟨0, 0, 0, 0⟩⟩, ⟨⟨0, 0, 0, 0⟩, ⟨0, 0, 0, 0⟩⟩, ⟨⟨0, 0, 0, 0⟩, ⟨0, 0, 0, 0⟩⟩⟩, ⟨0, 0, 0, 0, 0, 0, 0, 0⟩, ⟨⟨0, 0, 0, 0⟩, ⟨0, 0, 0, 0⟩⟩, ⟨0, 0, 0, 0⟩, []⟩ nilSl)) zeroValue45 rfl) rfl) (.inr fun _ _ _ h => (h.imp (Ls.of (.cons .k2 (.cons .k2 (.cons .k2 (.cons .k2 (.cons .k2 .nil))))))).ro Rs.nil) fun b19 _ => ?_
          refine .onel .k1 fun ho20 => ?_
          refine .dgo rfl (.n rfl) (G.str .t3 .g0 .k0 (.mk (cs' := (escrow_State.cs r16.1 u18)) sizeOf45 rfl (onez_45 _ ho20) rfl rfl)) (.inr fun _ _ _ h => (h.imp (Ls.of (.cons .k2 (.cons .k2 (.cons .k2 (.cons .k2 (.cons .k2 .nil))))))).ro Rs.nil) fun _ _ => ?_
          refine .dgo rfl (.n rfl) (OpV.g (OpP.toV (P.asg .t2)) rfl) (.inr fun _ _ _ h => (h.imp (Ls.of (.cons .k2 (.cons .k2 (.cons .k2 (.cons .k2 (.cons .k2 .nil))))))).ro Rs.nil) fun _ _ => ?_
          refine .dgo rfl (.n rfl) (OpV.g (OpP.toV (P.asg .t2)) rfl) (.inr fun _ _ _ h => (h.imp (Ls.of (.cons .k2 (.cons .k2 (.cons .k2 (.cons .k2 (.cons .k2 .nil))))))).ro Rs.nil) fun _ _ => ?_
          refine .dnil ?_
          exact .dst ⟨u18, b19⟩ trivial (.cons Mm.m0 (.cons Mm.m1 (.cons Mm.m2 (.cons Mm.m3 (.cons Mm.m4 (.cons Mm.m5 .nil)))))) (Ls.of (.cons .k0 (.cons .k0 (.cons .k0 (.cons .k0 (.cons .k0 (.cons .k0 (.cons .k0 .nil)))))))) .nil
        · refine .dgo rfl (.n rfl) (OpX.g (X.alc (cs := (escrow_State.cs ⟨0, 0, ⟨⟨⟨0, 0, 0, 0⟩, ⟨0, 0, 0, 0⟩⟩, ⟨⟨0, 0, 0, 0⟩, ⟨0, 0, 0, 0⟩⟩, ⟨⟨0, 0, 0, 0⟩, ⟨0, 0, 0, 0⟩⟩, ⟨⟨0, 0, 0, 0⟩, ⟨0, 0, 0, 0⟩⟩, ⟨⟨0, 0, 0, 0⟩, ⟨0, 0, 0, 0⟩⟩, ⟨⟨0, 0, 0, 0⟩, ⟨0, 0, 0, 0⟩⟩, ⟨⟨0, 0, 0, 0⟩, ⟨0, 0, 0, 0⟩⟩, ⟨⟨0, 0, 0, 0⟩, ⟨0, 0, 0, 0⟩⟩⟩, ⟨⟨⟨0, 0, 0, 0⟩, ⟨0, 0, 0, 0⟩⟩, ⟨⟨0, 0, 0, 0⟩, ⟨0, 0, 0, 0⟩⟩, ⟨⟨0, 0, 0, 0⟩, ⟨0, 0, 0, 0⟩⟩, ⟨⟨0, 0, 0, 0⟩, ⟨0, 0, 0, 0⟩⟩, ⟨⟨0, 0, 0, 0⟩, ⟨0, 0, 0, 0⟩⟩, ⟨⟨0, 0, 0, 0⟩, ⟨0, 0, 0, 0⟩⟩, ⟨⟨0, 0, 0, 0⟩, ⟨0, 0, 0, 0⟩⟩, ⟨⟨0, 0, 0, 0⟩, ⟨0, 0, 0, 0⟩⟩⟩, ⟨0, 0, 0, 0, 0, 0, 0, 0⟩, ⟨⟨0, 0, 0, 0⟩, ⟨0, 0, 0, 0⟩⟩, ⟨0, 0, 0, 0⟩, []⟩ nilSl)) zeroValue45 rfl) rfl) (.inr fun _ _ _ h => (h.imp (Ls.of (.cons .k1 (.cons .k1 (.cons .k1 (.cons .k1 (.cons .k1 .nil))))))).ro Rs.nil) fun b19 _ => ?_
          refine .dgo rfl (.n rfl) (G.calll call28 (.cons .t2 (.cons .t1 .nil)) (S_escrow_Apply a0.s z00a x11 r16 hr17) .nil (.imp (List.mem_append_right _ Mm.m3) (fun _ => lst_rows) .nil) (fun _ _ => rfl) rfl) (.inr fun _ _ _ h => (h.imp (Ls.of (.cons .k2 (.cons .k2 (.cons .k2 (.cons .k2 (.cons .k2 .nil))))))).ro Rs.nil) fun u18 _ => ?_
          refine .dpu rfl (.n rfl) (P.mov .t0) rfl rfl ?_
          refine .dpu rfl (.n rfl) (P.ext (v := Ag (escrow_State.cs r16.1 u18)) .g0 rfl) rfl rfl ?_
          refine .dpu rfl (.n rfl) (P.ext (v := N r16.2.1) .g1 rfl) rfl rfl ?_
          refine .dpu rfl (.n rfl) (P.ext (v := Bo r16.2.2) .t2 rfl) rfl rfl ?_
          refine .onel .k0 fun ho20 => ?_
          refine .dgo rfl (.n rfl) (G.str .t2 .g2 .k1 (.mk (cs' := (escrow_State.cs r16.1 u18)) sizeOf45 rfl (onez_45 _ ho20) rfl rfl)) (.inr fun _ _ _ h => (h.imp (Ls.of (.cons .k2 (.cons .k2 (.cons .k2 (.cons .k2 (.cons .k2 .nil))))))).ro Rs.nil) fun _ _ => ?_
          refine .dgo rfl (.n rfl) (OpV.g (OpP.toV (P.asg .t1)) rfl) (.inr fun _ _ _ h => (h.imp (Ls.of (.cons .k2 (.cons .k2 (.cons .k2 (.cons .k2 (.cons .k2 .nil))))))).ro Rs.nil) fun _ _ => ?_
          refine .dgo rfl (.n rfl) (OpV.g (OpP.toV (P.asg .t1)) rfl) (.inr fun _ _ _ h => (h.imp (Ls.of (.cons .k2 (.cons .k2 (.cons .k2 (.cons .k2 (.cons .k2 .nil))))))).ro Rs.nil) fun _ _ => ?_
          refine .dnil ?_
          exact .dst ⟨u18, b19⟩ trivial (.cons Mm.m0 (.cons Mm.m1 (.cons Mm.m2 (.cons Mm.m3 (.cons Mm.m4 (.cons Mm.m5 .nil)))))) (Ls.of (.cons .k0 (.cons .k0 (.cons .k0 (.cons .k0 (.cons .k0 (.cons .k0 (.cons .k0 .nil)))))))) .nil
      · obtain ⟨u18, b19⟩ := x_
        refine .then ?_
        refine .seq ?_
        refine .seq ?_
        refine .reg rfl ?_
        refine .opp (P.mov .t0) rfl ?_
        refine .opp (P.not .t0) rfl ?_
        refine .nil ?_
        refine .then ?_
        refine .cond .t0 (fun c21 => ?_) (fun c21 => ?_)
        · rw [if_pos c21] at h
          refine .seq ?_
          refine .reg rfl ?_
          refine .opp (P.asg .k) rfl ?_
          refine .nil ?_
          refine .then ?_
          refine .ret ?_
          refine .thr ?_
          cases h
          exact .finw ⟨z00a, z00b, z00c⟩ (.r1 rfl (.tmp .g0)) trivial (Ls.of (.cons .k3 (.cons .k3 (.cons .k3 (.cons .k3 .nil))))) .nil
        · rw [if_neg (ne_true_of_eq_false c21)] at h
          refine .skip ?_
          refine .then ?_
          refine .seq ?_
          refine .reg rfl ?_
          refine .opp (P.mov .g4) rfl ?_
          refine .op (V.ld (v := Ag (escrow_State.cs r16.1 u18)) .g2 .k0 (.agg isAgg45 sizeOf45 rfl rfl)) rfl ?_
          refine .opp (P.nilc .t1) rfl ?_
          refine .opp (P.fa .t0 fa_62_0 rfl) rfl ?_
          refine .onel .k1 fun ho22 => ?_
          refine .opg (G.str .t1 .t0 .k3 (.mk (cs' := (chain_Chain.cs ⟨r16.1, a0.pool, a0.events, a0.made⟩ u18 z00b z00c)) sizeOf45 rfl (onez_45 _ ho22) rfl rfl)) rfl fun _ _ => ?_
          refine .nil ?_
          refine .then ?_
          refine .seq ?_
          refine .reg rfl ?_
          refine .opp (P.mov .g4) rfl ?_
          refine .opp (P.mov .g5) rfl ?_
          refine .opp (P.nilc .t0) rfl ?_
          refine .opp (P.fa .t0 fa_62_1 rfl) rfl ?_
          refine .op (V.ld (v := z00b) .t0 .k0 (.one isAgg22 rfl)) rfl ?_
          refine .opp (P.mov .g5) rfl ?_
          refine .opp (P.mov .t6) rfl ?_
          refine .opp (P.bin .t0 .k .add) rfl ?_
          obtain ⟨r23, hr24, h⟩ := bnd_eq h
          refine .opg (G.call call29 (.cons .t2 (.cons .t1 (.cons .t0 .nil))) (S_slices_Delete_api_Tx_o z00b a0.pool (Int.tmod (IntKind.i64.wrap ((Int.tmod a1 (a0.pool.length : Int)) + (a0.pool.length : Int))) (a0.pool.length : Int)) (IntKind.i64.wrap ((Int.tmod (IntKind.i64.wrap ((Int.tmod a1 (a0.pool.length : Int)) + (a0.pool.length : Int))) (a0.pool.length : Int)) + 1)) r23 hr24) (.cons .k5 .nil) .nil (fun _ _ => rfl) (fun _ _ => rfl) rfl) rfl fun u25 _ => ?_
          refine .opp (P.nilc .t1) rfl ?_
          refine .opp (P.fa .t0 fa_62_1 rfl) rfl ?_
          refine .onel .k0 fun ho26 => ?_
          refine .opg (G.str .t1 .t0 .k1 (.mk1 (cs' := (chain_Chain.cs ⟨r16.1, [], a0.events, a0.made⟩ u18 u25 z00c)) sizeOf22 rfl ho26 rfl rfl)) rfl fun _ _ => ?_
          refine .nil ?_
          refine .then ?_
          refine .seq ?_
          obtain ⟨hb29, h⟩ := grd_eq h
          refine .dcut (γ := Value × Value) (φ := fun _ => True) (E1 := fun x_ => []) (L1 := fun x_ => [blk b00 62 (chain_Chain.cs ⟨r16.1, [], [], a0.made⟩ u18 u25 x_.2), lst 70 27 x_.2 ((a0.events ++ ([⟨r16.1.Time, r16.2.1, x11⟩] : List api_Event)).map api_Event.cs), lst 70 27 x_.1 [(api_Event.cs ⟨r16.1.Time, r16.2.1, x11⟩)], lst 36 25 u25 (r23.map api_Tx.cs), blk b19 45 (escrow_State.cs r16.1 u18), lst 76 3 u18 (r16.1.Locks.map escrow_Lock.cs), blk b15 36 (api_Tx.cs x11), lst 76 3 z00a (a0.s.Locks.map escrow_Lock.cs)]) (R1 := fun x_ => []) ?_ (fun x_ _ => ?_)
          · refine .draw 11 (.on 0 .pu (.on 1 .pu (.on 2 .pu (.on 3 .pu (.on 5 .pu (.on 7 .pu (.on 4 .ld (.fk 6 8 (.on 8 .go (.on 9 .pu (.on 10 .go (.on 11 .go (.on 12 .pu (.on 13 .pu (.on 14 .go .nl))))))) (.on 6 .go (.on 9 .pu (.on 10 .go (.on 11 .go (.on 12 .pu (.on 13 .pu (.on 14 .go .nl))))))))))))))) follows_mixed (.thn (.thn .body)) (by kernel_rfl) ?_
            refine .dpu rfl (.n rfl) (P.mov .g3) rfl rfl ?_
            refine .dpu rfl (.n rfl) (P.mov .t4) rfl rfl ?_
            refine .dpu rfl (.n rfl) (P.nilc .t0) rfl rfl ?_
            refine .dpu rfl (.n rfl) (P.fa .t0 fa_62_2 rfl) rfl rfl ?_
            refine .dpu rfl (.n rfl) (P.fa .t3 fa_45_1 rfl) rfl rfl ?_
            refine .dpu rfl (.n rfl) (P.mov .t3) rfl rfl ?_
            refine .dld rfl (.n rfl) (V.ld (v := z00c) .t2 .k0 (.one isAgg48 rfl)) (fun _ h => h) rfl rfl ?_
            refine .dfk ?_ ?_
            · refine .dgo rfl (.n rfl) (OpV.g (V.ld (v := N r16.1.Time) .t2 .k2 (.one isAgg3 rfl)) rfl) (.inr fun _ _ _ h => h) fun _ _ => ?_
              refine .dgo rfl (.n rfl) (OpV.g (V.ld (v := Ag (api_Tx.cs x11)) .t4 .k4 (.agg isAgg36 sizeOf36 rfl rfl)) rfl) (.inr fun _ _ _ h => h) fun _ _ => ?_
              refine .dpu rfl (.n rfl) (P.bld (v := Ag (api_Event.cs ⟨r16.1.Time, r16.2.1, x11⟩)) (.cons .t1 (.cons .t2 (.cons .t0 .nil))) (bld_run zeroValue70 runUnderlying70 pl_70 (by kernel_rfl))) rfl rfl ?_
              refine .dgo rfl (.n rfl) (G.bsl (cs := (api_Event.cs ⟨r16.1.Time, r16.2.1, x11⟩)) .t0 runUnderlying48 sizeOf70 zeroValue70 rfl rfl rfl rfl rfl) (.inr fun _ _ _ h => (h.imp (Ls.of (.cons .k1 (.cons .k1 (.cons .k1 (.cons .k1 (.cons .k1 (.cons .k1 (.cons .k1 .nil))))))))).ro Rs.nil) fun u27 _ => ?_
              refine .dgo rfl (.n rfl) (G.app (by_ := 240) .t1 .t0 .k7 (.inr (.inr ⟨_, Mm.m0⟩)) runUnderlying48 runUnderlying48 sizeOf70 typeInfo70 rfl rfl zeroValue70 rfl rfl (by simpa using hb29) rfl) (.inl rfl) fun u28 _ => ?_
              refine .conseq .k0 (q := lst 70 27 u28 ((a0.events ++ ([⟨r16.1.Time, r16.2.1, x11⟩] : List api_Event)).map api_Event.cs)) (fun _ hh => by simpa [List.map_append] using hh) ?_
              refine .dpu rfl (.n rfl) (P.nilc .t1) rfl rfl ?_
              refine .dpu rfl (.n rfl) (P.fa .t0 fa_62_2 rfl) rfl rfl ?_
              refine .onel .k0 fun ho30 => ?_
              refine .dgo rfl (.n rfl) (G.str .t1 .t0 .k2 (.mk1 (cs' := (chain_Chain.cs ⟨r16.1, [], [], a0.made⟩ u18 u25 u28)) sizeOf48 rfl ho30 rfl rfl)) (.inl rfl) fun _ _ => ?_
              refine .dnil ?_
              exact .dst ⟨u27, u28⟩ trivial .nil (Ls.of (.cons .k0 (.cons .k0 (.cons .k0 (.cons .k0 (.cons .k0 (.cons .k0 (.cons .k0 (.cons .k0 .nil))))))))) .nil
            · refine .dgo rfl (.n rfl) (OpV.g (V.ld (v := Ag (api_Tx.cs x11)) .t4 .k4 (.agg isAgg36 sizeOf36 rfl rfl)) rfl) (.inr fun _ _ _ h => h) fun _ _ => ?_
              refine .dgo rfl (.n rfl) (OpV.g (V.ld (v := N r16.1.Time) .t3 .k2 (.one isAgg3 rfl)) rfl) (.inr fun _ _ _ h => h) fun _ _ => ?_
              refine .dpu rfl (.n rfl) (P.bld (v := Ag (api_Event.cs ⟨r16.1.Time, r16.2.1, x11⟩)) (.cons .t0 (.cons .t2 (.cons .t0 .nil))) (bld_run zeroValue70 runUnderlying70 pl_70 (by kernel_rfl))) rfl rfl ?_
              refine .dgo rfl (.n rfl) (G.bsl (cs := (api_Event.cs ⟨r16.1.Time, r16.2.1, x11⟩)) .t0 runUnderlying48 sizeOf70 zeroValue70 rfl rfl rfl rfl rfl) (.inr fun _ _ _ h => (h.imp (Ls.of (.cons .k1 (.cons .k1 (.cons .k1 (.cons .k1 (.cons .k1 (.cons .k1 (.cons .k1 .nil))))))))).ro Rs.nil) fun u27 _ => ?_
              refine .dgo rfl (.n rfl) (G.app (by_ := 240) .t1 .t0 .k7 (.inr (.inr ⟨_, Mm.m0⟩)) runUnderlying48 runUnderlying48 sizeOf70 typeInfo70 rfl rfl zeroValue70 rfl rfl (by simpa using hb29) rfl) (.inl rfl) fun u28 _ => ?_
              refine .conseq .k0 (q := lst 70 27 u28 ((a0.events ++ ([⟨r16.1.Time, r16.2.1, x11⟩] : List api_Event)).map api_Event.cs)) (fun _ hh => by simpa [List.map_append] using hh) ?_
              refine .dpu rfl (.n rfl) (P.nilc .t1) rfl rfl ?_
              refine .dpu rfl (.n rfl) (P.fa .t0 fa_62_2 rfl) rfl rfl ?_
              refine .onel .k0 fun ho30 => ?_
              refine .dgo rfl (.n rfl) (G.str .t1 .t0 .k2 (.mk1 (cs' := (chain_Chain.cs ⟨r16.1, [], [], a0.made⟩ u18 u25 u28)) sizeOf48 rfl ho30 rfl rfl)) (.inl rfl) fun _ _ => ?_
              refine .dnil ?_
              exact .dst ⟨u27, u28⟩ trivial .nil (Ls.of (.cons .k0 (.cons .k0 (.cons .k0 (.cons .k0 (.cons .k0 (.cons .k0 (.cons .k0 (.cons .k0 .nil))))))))) .nil
          · obtain ⟨u27, u28⟩ := x_
            refine .then ?_
            refine .seq ?_
            refine .reg rfl ?_
            refine .opp (P.asg .k) rfl ?_
            refine .nil ?_
            refine .then ?_
            refine .ret ?_
            cases h
            exact .finw ⟨u18, u25, u28⟩ (.r1 rfl (.tmp .g0)) trivial (Ls.of (.cons .k0 (.cons .k4 (.cons .k2 (.cons .k0 .nil))))) .nil
attribute [irreducible] chain_Chain_Include
noncomputable def escrow_Rise (a0 : escrow_State) (a1 : Int) : Option (escrow_State) :=
  Option.bind (slices_Clone_escrow_Lock a0.Locks) fun r3 => some ((⟨a0.Side, IntKind.i64.wrap (a0.Time + (if (if 0 > (IntKind.i64.wrap (1099511627776 - a0.Time)) then 0 else IntKind.i64.wrap (1099511627776 - a0.Time)) < (if 0 > a1 then 0 else a1) then if 0 > (IntKind.i64.wrap (1099511627776 - a0.Time)) then 0 else IntKind.i64.wrap (1099511627776 - a0.Time) else if 0 > a1 then 0 else a1)), a0.Purse, a0.Vault, a0.Nonces, a0.Held, a0.Burnt, r3⟩ : escrow_State))
set_option maxRecDepth 20000 in
set_option maxHeartbeats 1000000 in
theorem S_escrow_Rise (a0 : escrow_State) (z00a : Value) (a1 : Int) (r : escrow_State) (h : escrow_Rise a0 a1 = some r) :
    SpecF Tryz.prog 14 [Ag (escrow_State.cs a0 z00a), N a1] [] [rows 3 z00a (a0.Locks.map escrow_Lock.cs)] (fun z : Value => True) (fun z => Ag (escrow_State.cs r z)) (fun z M => lst 76 3 z (r.Locks.map escrow_Lock.cs) ::  M) (fun z M =>  M) := by
  refine .of func14 rfl ntmps14 rfl fun w0 D0 G0 => ?_
  unfold escrow_Rise at h
  refine .seq ?_
  refine .reg rfl ?_
  refine .opx (X.box (cs := (escrow_State.cs a0 z00a)) .t0 rfl) rfl fun b1 => ?_
  refine .opx (X.alc (cs := (escrow_State.cs ⟨0, 0, ⟨⟨⟨0, 0, 0, 0⟩, ⟨0, 0, 0, 0⟩⟩, ⟨⟨0, 0, 0, 0⟩, ⟨0, 0, 0, 0⟩⟩, ⟨⟨0, 0, 0, 0⟩, ⟨0, 0, 0, 0⟩⟩, ⟨⟨0, 0, 0, 0⟩, ⟨0, 0, 0, 0⟩⟩, ⟨⟨0, 0, 0, 0⟩, ⟨0, 0, 0, 0⟩⟩, ⟨⟨0, 0, 0, 0⟩, ⟨0, 0, 0, 0⟩⟩, ⟨⟨0, 0, 0, 0⟩, ⟨0, 0, 0, 0⟩⟩, ⟨⟨0, 0, 0, 0⟩, ⟨0, 0, 0, 0⟩⟩⟩, ⟨⟨⟨0, 0, 0, 0⟩, ⟨0, 0, 0, 0⟩⟩, ⟨⟨0, 0, 0, 0⟩, ⟨0, 0, 0, 0⟩⟩, ⟨⟨0, 0, 0, 0⟩, ⟨0, 0, 0, 0⟩⟩, ⟨⟨0, 0, 0, 0⟩, ⟨0, 0, 0, 0⟩⟩, ⟨⟨0, 0, 0, 0⟩, ⟨0, 0, 0, 0⟩⟩, ⟨⟨0, 0, 0, 0⟩, ⟨0, 0, 0, 0⟩⟩, ⟨⟨0, 0, 0, 0⟩, ⟨0, 0, 0, 0⟩⟩, ⟨⟨0, 0, 0, 0⟩, ⟨0, 0, 0, 0⟩⟩⟩, ⟨0, 0, 0, 0, 0, 0, 0, 0⟩, ⟨⟨0, 0, 0, 0⟩, ⟨0, 0, 0, 0⟩⟩, ⟨0, 0, 0, 0⟩, []⟩ nilSl)) zeroValue45 rfl) rfl fun b2 => ?_
  refine .nil ?_
  refine .then ?_
  refine .seq ?_
  refine .reg rfl ?_
  refine .opp (P.fa .g1 fa_45_1 rfl) rfl ?_
  refine .op (V.ld (v := N a0.Time) .t0 .k1 (.one isAgg3 rfl)) rfl ?_
  refine .opp (P.mov .t3) rfl ?_
  refine .opp (P.max2 .t0 .k) rfl ?_
  refine .opp (P.fa .g3 fa_45_1 rfl) rfl ?_
  refine .op (V.ld (v := N a0.Time) .t0 .k1 (.one isAgg3 rfl)) rfl ?_
  refine .opp (P.bin .k .t0 .sub) rfl ?_
  refine .opp (P.max2 .t0 .k) rfl ?_
  refine .opp (P.min2 .t1 .t0) rfl ?_
  refine .opp (P.bin .t1 .t0 .add) rfl ?_
  refine .opp (P.fa .g2 fa_45_1 rfl) rfl ?_
  refine .opg (G.str .t1 .t0 .k1 (.mk (cs' := (escrow_State.cs ⟨a0.Side, IntKind.i64.wrap (a0.Time + (if (if 0 > (IntKind.i64.wrap (1099511627776 - a0.Time)) then 0 else IntKind.i64.wrap (1099511627776 - a0.Time)) < (if 0 > a1 then 0 else a1) then if 0 > (IntKind.i64.wrap (1099511627776 - a0.Time)) then 0 else IntKind.i64.wrap (1099511627776 - a0.Time) else if 0 > a1 then 0 else a1)), a0.Purse, a0.Vault, a0.Nonces, a0.Held, a0.Burnt, a0.Locks⟩ z00a)) sizeOf3 rfl rfl rfl rfl)) rfl fun _ _ => ?_
  refine .nil ?_
  refine .then ?_
  refine .seq ?_
  refine .reg rfl ?_
  refine .opp (P.fa .g1 fa_45_7 rfl) rfl ?_
  refine .op (V.ld (v := z00a) .t0 .k0 (.one isAgg43 rfl)) rfl ?_
  obtain ⟨r3, hr4, h⟩ := bnd_eq h
  refine .opg (G.call call32 (.cons .t0 .nil) (S_slices_Clone_escrow_Lock z00a a0.Locks r3 hr4) .nil (.cons Mm.m0 .nil) (fun _ _ => rfl) (fun _ _ => rfl) rfl) rfl fun u5 _ => ?_
  refine .opp (P.fa .g2 fa_45_7 rfl) rfl ?_
  refine .onel .k0 fun ho6 => ?_
  refine .opg (G.str .t1 .t0 .k1 (.mk1 (cs' := (escrow_State.cs ⟨a0.Side, IntKind.i64.wrap (a0.Time + (if (if 0 > (IntKind.i64.wrap (1099511627776 - a0.Time)) then 0 else IntKind.i64.wrap (1099511627776 - a0.Time)) < (if 0 > a1 then 0 else a1) then if 0 > (IntKind.i64.wrap (1099511627776 - a0.Time)) then 0 else IntKind.i64.wrap (1099511627776 - a0.Time) else if 0 > a1 then 0 else a1)), a0.Purse, a0.Vault, a0.Nonces, a0.Held, a0.Burnt, []⟩ u5)) sizeOf43 rfl ho6 rfl rfl)) rfl fun _ _ => ?_
  refine .nil ?_
  refine .then ?_
  refine .seq ?_
  refine .reg rfl ?_
  refine .op (V.ld (v := Ag (escrow_State.cs ⟨a0.Side, IntKind.i64.wrap (a0.Time + (if (if 0 > (IntKind.i64.wrap (1099511627776 - a0.Time)) then 0 else IntKind.i64.wrap (1099511627776 - a0.Time)) < (if 0 > a1 then 0 else a1) then if 0 > (IntKind.i64.wrap (1099511627776 - a0.Time)) then 0 else IntKind.i64.wrap (1099511627776 - a0.Time) else if 0 > a1 then 0 else a1)), a0.Purse, a0.Vault, a0.Nonces, a0.Held, a0.Burnt, []⟩ u5)) .t1 .k0 (.agg isAgg45 sizeOf45 rfl rfl)) rfl ?_
  refine .onel .k1 fun ho7 => ?_
  refine .opg (G.str .t0 .g0 .k2 (.mk (cs' := (escrow_State.cs ⟨a0.Side, IntKind.i64.wrap (a0.Time + (if (if 0 > (IntKind.i64.wrap (1099511627776 - a0.Time)) then 0 else IntKind.i64.wrap (1099511627776 - a0.Time)) < (if 0 > a1 then 0 else a1) then if 0 > (IntKind.i64.wrap (1099511627776 - a0.Time)) then 0 else IntKind.i64.wrap (1099511627776 - a0.Time) else if 0 > a1 then 0 else a1)), a0.Purse, a0.Vault, a0.Nonces, a0.Held, a0.Burnt, []⟩ u5)) sizeOf45 rfl (onez_45 _ ho7) rfl rfl)) rfl fun _ _ => ?_
  refine .nil ?_
  refine .then ?_
  refine .ret ?_
  cases h
  exact .finw u5 (.r1 rfl (.cell .g0 .k0 (.agg isAgg45 sizeOf45 rfl rfl))) trivial (Ls.of (.cons .k2 .nil)) .nil
attribute [irreducible] escrow_Rise
noncomputable def chain_Chain_Rise (a0 : chain_Chain) (a1 : Int) : Option (chain_Chain) :=
  if (chain_Chain_is a0) = true then (Option.bind (escrow_Rise a0.s a1) fun r2 => some (⟨r2, a0.pool, a0.events, a0.made⟩ : chain_Chain)) else (some a0)
set_option maxRecDepth 20000 in
set_option maxHeartbeats 1000000 in
theorem S_chain_Chain_Rise (b00 : Nat) (a0 : chain_Chain) (z00a z00b z00c : Value) (a1 : Int) (r : chain_Chain) (h : chain_Chain_Rise a0 a1 = some r) :
    SpecF Tryz.prog 10 [pt b00 0, N a1] [blk b00 62 (chain_Chain.cs a0 z00a z00b z00c), lst 76 3 z00a (a0.s.Locks.map escrow_Lock.cs), lst 36 25 z00b (a0.pool.map api_Tx.cs), lst 70 27 z00c (a0.events.map api_Event.cs)] [] (fun z : Value => True) (fun z => Tu []) (fun z M => blk b00 62 (chain_Chain.cs r z z00b z00c) :: lst 76 3 z (r.s.Locks.map escrow_Lock.cs) :: lst 36 25 z00b (r.pool.map api_Tx.cs) :: lst 70 27 z00c (r.events.map api_Event.cs) ::  M) (fun z M =>  M) := by
  refine .of func10 rfl ntmps10 rfl fun w0 D0 G0 => ?_
  unfold chain_Chain_Rise at h
  refine .seq ?_
  refine .reg rfl ?_
  refine .opp (P.mov .g0) rfl ?_
  refine .opg (G.call call25 (.cons .t0 .nil) (S_chain_Chain_is b00 a0 z00a z00b z00c _ rfl) (.cons .k0 (.cons .k0 (.cons .k0 (.cons .k0 .nil)))) .nil (fun _ _ => rfl) (fun _ _ => rfl) rfl) rfl fun _ _ => ?_
  refine .nil ?_
  refine .then ?_
  refine .cond .t0 (fun c1 => ?_) (fun c1 => ?_)
  · rw [if_pos c1] at h
    refine .reg rfl ?_
    refine .opp (P.mov .g0) rfl ?_
    refine .opp (P.mov .t1) rfl ?_
    refine .opp (P.nilc .t0) rfl ?_
    refine .opp (P.fa .t0 fa_62_0 rfl) rfl ?_
    refine .op (V.ld (v := Ag (escrow_State.cs a0.s z00a)) .t0 .k0 (.agg isAgg45 sizeOf45 rfl rfl)) rfl ?_
    refine .opp (P.mov .t2) rfl ?_
    obtain ⟨r2, hr3, h⟩ := bnd_eq h
    refine .opg (G.calll call14 (.cons .t1 (.cons .t0 .nil)) (S_escrow_Rise a0.s z00a a1 r2 hr3) .nil (.imp (List.mem_append_right _ Mm.m1) (fun _ => lst_rows) .nil) (fun _ _ => rfl) rfl) rfl fun u4 _ => ?_
    refine .opp (P.nilc .t1) rfl ?_
    refine .opp (P.fa .t0 fa_62_0 rfl) rfl ?_
    refine .onel .k0 fun ho5 => ?_
    refine .opg (G.str .t1 .t0 .k1 (.mk (cs' := (chain_Chain.cs ⟨r2, a0.pool, a0.events, a0.made⟩ u4 z00b z00c)) sizeOf45 rfl (onez_45 _ ho5) rfl rfl)) rfl fun _ _ => ?_
    refine .nil ?_
    cases h
    exact .finwn u4 (.r0 rfl) trivial (Ls.of (.cons .k0 (.cons .k0 (.cons .k1 (.cons .k1 .nil))))) .nil
  · rw [if_neg (ne_true_of_eq_false c1)] at h
    refine .skip ?_
    cases h
    exact .finwn z00a (.r0 rfl) trivial (Ls.of (.cons .k0 (.cons .k0 (.cons .k0 (.cons .k0 .nil))))) .nil
attribute [irreducible] chain_Chain_Rise
noncomputable def chain_Chain_State (a0 : chain_Chain) : Option (escrow_State) :=
  if (!(chain_Chain_is a0)) = true then (some (⟨0, 0, ⟨⟨⟨0, 0, 0, 0⟩, ⟨0, 0, 0, 0⟩⟩, ⟨⟨0, 0, 0, 0⟩, ⟨0, 0, 0, 0⟩⟩, ⟨⟨0, 0, 0, 0⟩, ⟨0, 0, 0, 0⟩⟩, ⟨⟨0, 0, 0, 0⟩, ⟨0, 0, 0, 0⟩⟩, ⟨⟨0, 0, 0, 0⟩, ⟨0, 0, 0, 0⟩⟩, ⟨⟨0, 0, 0, 0⟩, ⟨0, 0, 0, 0⟩⟩, ⟨⟨0, 0, 0, 0⟩, ⟨0, 0, 0, 0⟩⟩, ⟨⟨0, 0, 0, 0⟩, ⟨0, 0, 0, 0⟩⟩⟩, ⟨⟨⟨0, 0, 0, 0⟩, ⟨0, 0, 0, 0⟩⟩, ⟨⟨0, 0, 0, 0⟩, ⟨0, 0, 0, 0⟩⟩, ⟨⟨0, 0, 0, 0⟩, ⟨0, 0, 0, 0⟩⟩, ⟨⟨0, 0, 0, 0⟩, ⟨0, 0, 0, 0⟩⟩, ⟨⟨0, 0, 0, 0⟩, ⟨0, 0, 0, 0⟩⟩, ⟨⟨0, 0, 0, 0⟩, ⟨0, 0, 0, 0⟩⟩, ⟨⟨0, 0, 0, 0⟩, ⟨0, 0, 0, 0⟩⟩, ⟨⟨0, 0, 0, 0⟩, ⟨0, 0, 0, 0⟩⟩⟩, ⟨0, 0, 0, 0, 0, 0, 0, 0⟩, ⟨⟨0, 0, 0, 0⟩, ⟨0, 0, 0, 0⟩⟩, ⟨0, 0, 0, 0⟩, []⟩ : escrow_State)) else (Option.bind (escrow_Rise a0.s 0) fun r3 => some r3)
set_option maxRecDepth 20000 in
set_option maxHeartbeats 1000000 in
theorem S_chain_Chain_State (b00 : Nat) (a0 : chain_Chain) (z00a z00b z00c : Value) (r : escrow_State) (h : chain_Chain_State a0 = some r) :
    SpecF Tryz.prog 13 [pt b00 0] [blk b00 62 (chain_Chain.cs a0 z00a z00b z00c), lst 76 3 z00a (a0.s.Locks.map escrow_Lock.cs), lst 36 25 z00b (a0.pool.map api_Tx.cs), lst 70 27 z00c (a0.events.map api_Event.cs)] [] (fun z : Value => True) (fun z => Ag (escrow_State.cs r z)) (fun z M => blk b00 62 (chain_Chain.cs a0 z00a z00b z00c) :: lst 76 3 z00a (a0.s.Locks.map escrow_Lock.cs) :: lst 36 25 z00b (a0.pool.map api_Tx.cs) :: lst 70 27 z00c (a0.events.map api_Event.cs) :: lst 76 3 z (r.Locks.map escrow_Lock.cs) ::  M) (fun z M =>  M) := by
  refine .of func13 rfl ntmps13 rfl fun w0 D0 G0 => ?_
  unfold chain_Chain_State at h
  refine .seq ?_
  refine .reg rfl ?_
  refine .opx (X.alc (cs := (escrow_State.cs ⟨0, 0, ⟨⟨⟨0, 0, 0, 0⟩, ⟨0, 0, 0, 0⟩⟩, ⟨⟨0, 0, 0, 0⟩, ⟨0, 0, 0, 0⟩⟩, ⟨⟨0, 0, 0, 0⟩, ⟨0, 0, 0, 0⟩⟩, ⟨⟨0, 0, 0, 0⟩, ⟨0, 0, 0, 0⟩⟩, ⟨⟨0, 0, 0, 0⟩, ⟨0, 0, 0, 0⟩⟩, ⟨⟨0, 0, 0, 0⟩, ⟨0, 0, 0, 0⟩⟩, ⟨⟨0, 0, 0, 0⟩, ⟨0, 0, 0, 0⟩⟩, ⟨⟨0, 0, 0, 0⟩, ⟨0, 0, 0, 0⟩⟩⟩, ⟨⟨⟨0, 0, 0, 0⟩, ⟨0, 0, 0, 0⟩⟩, ⟨⟨0, 0, 0, 0⟩, ⟨0, 0, 0, 0⟩⟩, ⟨⟨0, 0, 0, 0⟩, ⟨0, 0, 0, 0⟩⟩, ⟨⟨0, 0, 0, 0⟩, ⟨0, 0, 0, 0⟩⟩, ⟨⟨0, 0, 0, 0⟩, ⟨0, 0, 0, 0⟩⟩, ⟨⟨0, 0, 0, 0⟩, ⟨0, 0, 0, 0⟩⟩, ⟨⟨0, 0, 0, 0⟩, ⟨0, 0, 0, 0⟩⟩, ⟨⟨0, 0, 0, 0⟩, ⟨0, 0, 0, 0⟩⟩⟩, ⟨0, 0, 0, 0, 0, 0, 0, 0⟩, ⟨⟨0, 0, 0, 0⟩, ⟨0, 0, 0, 0⟩⟩, ⟨0, 0, 0, 0⟩, []⟩ nilSl)) zeroValue45 rfl) rfl fun b1 => ?_
  refine .nil ?_
  refine .then ?_
  refine .seq ?_
  refine .seq ?_
  refine .reg rfl ?_
  refine .opp (P.mov .g1) rfl ?_
  refine .opg (G.call call25 (.cons .t0 .nil) (S_chain_Chain_is b00 a0 z00a z00b z00c _ rfl) (.cons .k1 (.cons .k1 (.cons .k1 (.cons .k1 .nil)))) .nil (fun _ _ => rfl) (fun _ _ => rfl) rfl) rfl fun _ _ => ?_
  refine .opp (P.not .t0) rfl ?_
  refine .nil ?_
  refine .then ?_
  refine .cond .t0 (fun c2 => ?_) (fun c2 => ?_)
  · rw [if_pos c2] at h
    refine .seq ?_
    refine .reg rfl ?_
    refine .opp (P.bld (v := Ag (escrow_State.cs ⟨0, 0, ⟨⟨⟨0, 0, 0, 0⟩, ⟨0, 0, 0, 0⟩⟩, ⟨⟨0, 0, 0, 0⟩, ⟨0, 0, 0, 0⟩⟩, ⟨⟨0, 0, 0, 0⟩, ⟨0, 0, 0, 0⟩⟩, ⟨⟨0, 0, 0, 0⟩, ⟨0, 0, 0, 0⟩⟩, ⟨⟨0, 0, 0, 0⟩, ⟨0, 0, 0, 0⟩⟩, ⟨⟨0, 0, 0, 0⟩, ⟨0, 0, 0, 0⟩⟩, ⟨⟨0, 0, 0, 0⟩, ⟨0, 0, 0, 0⟩⟩, ⟨⟨0, 0, 0, 0⟩, ⟨0, 0, 0, 0⟩⟩⟩, ⟨⟨⟨0, 0, 0, 0⟩, ⟨0, 0, 0, 0⟩⟩, ⟨⟨0, 0, 0, 0⟩, ⟨0, 0, 0, 0⟩⟩, ⟨⟨0, 0, 0, 0⟩, ⟨0, 0, 0, 0⟩⟩, ⟨⟨0, 0, 0, 0⟩, ⟨0, 0, 0, 0⟩⟩, ⟨⟨0, 0, 0, 0⟩, ⟨0, 0, 0, 0⟩⟩, ⟨⟨0, 0, 0, 0⟩, ⟨0, 0, 0, 0⟩⟩, ⟨⟨0, 0, 0, 0⟩, ⟨0, 0, 0, 0⟩⟩, ⟨⟨0, 0, 0, 0⟩, ⟨0, 0, 0, 0⟩⟩⟩, ⟨0, 0, 0, 0, 0, 0, 0, 0⟩, ⟨⟨0, 0, 0, 0⟩, ⟨0, 0, 0, 0⟩⟩, ⟨0, 0, 0, 0⟩, []⟩ nilSl)) .nil (bld_run zeroValue45 runUnderlying45 pl_45 (by kernel_rfl))) rfl ?_
    refine .opg (G.str .t0 .g0 .k4 (.mk (cs' := (escrow_State.cs ⟨0, 0, ⟨⟨⟨0, 0, 0, 0⟩, ⟨0, 0, 0, 0⟩⟩, ⟨⟨0, 0, 0, 0⟩, ⟨0, 0, 0, 0⟩⟩, ⟨⟨0, 0, 0, 0⟩, ⟨0, 0, 0, 0⟩⟩, ⟨⟨0, 0, 0, 0⟩, ⟨0, 0, 0, 0⟩⟩, ⟨⟨0, 0, 0, 0⟩, ⟨0, 0, 0, 0⟩⟩, ⟨⟨0, 0, 0, 0⟩, ⟨0, 0, 0, 0⟩⟩, ⟨⟨0, 0, 0, 0⟩, ⟨0, 0, 0, 0⟩⟩, ⟨⟨0, 0, 0, 0⟩, ⟨0, 0, 0, 0⟩⟩⟩, ⟨⟨⟨0, 0, 0, 0⟩, ⟨0, 0, 0, 0⟩⟩, ⟨⟨0, 0, 0, 0⟩, ⟨0, 0, 0, 0⟩⟩, ⟨⟨0, 0, 0, 0⟩, ⟨0, 0, 0, 0⟩⟩, ⟨⟨0, 0, 0, 0⟩, ⟨0, 0, 0, 0⟩⟩, ⟨⟨0, 0, 0, 0⟩, ⟨0, 0, 0, 0⟩⟩, ⟨⟨0, 0, 0, 0⟩, ⟨0, 0, 0, 0⟩⟩, ⟨⟨0, 0, 0, 0⟩, ⟨0, 0, 0, 0⟩⟩, ⟨⟨0, 0, 0, 0⟩, ⟨0, 0, 0, 0⟩⟩⟩, ⟨0, 0, 0, 0, 0, 0, 0, 0⟩, ⟨⟨0, 0, 0, 0⟩, ⟨0, 0, 0, 0⟩⟩, ⟨0, 0, 0, 0⟩, []⟩ nilSl)) sizeOf45 rfl (onez_45 _ rfl) rfl rfl)) rfl fun _ _ => ?_
    refine .nil ?_
    refine .then ?_
    refine .ret ?_
    refine .thr ?_
    cases h
    refine .lnil 76 3 ?_
    exact .finw nilSl (.r1 rfl (.cell .g0 .k1 (.agg isAgg45 sizeOf45 rfl rfl))) trivial (Ls.of (.cons .k2 (.cons .k2 (.cons .k2 (.cons .k2 (.cons .k0 .nil)))))) .nil
  · rw [if_neg (ne_true_of_eq_false c2)] at h
    refine .skip ?_
    refine .then ?_
    refine .seq ?_
    refine .reg rfl ?_
    refine .opp (P.mov .t1) rfl ?_
    refine .opp (P.nilc .t0) rfl ?_
    refine .opp (P.fa .t0 fa_62_0 rfl) rfl ?_
    refine .op (V.ld (v := Ag (escrow_State.cs a0.s z00a)) .t0 .k0 (.agg isAgg45 sizeOf45 rfl rfl)) rfl ?_
    obtain ⟨r3, hr4, h⟩ := bnd_eq h
    refine .opg (G.calll call14 (.cons .t0 (.cons .k .nil)) (S_escrow_Rise a0.s z00a 0 r3 hr4) .nil (.imp (List.mem_append_right _ Mm.m1) (fun _ => lst_rows) .nil) (fun _ _ => rfl) rfl) rfl fun u5 _ => ?_
    refine .onel .k0 fun ho6 => ?_
    refine .opg (G.str .t0 .g0 .k5 (.mk (cs' := (escrow_State.cs r3 u5)) sizeOf45 rfl (onez_45 _ ho6) rfl rfl)) rfl fun _ _ => ?_
    refine .nil ?_
    refine .then ?_
    refine .ret ?_
    cases h
    exact .finw u5 (.r1 rfl (.cell .g0 .k0 (.agg isAgg45 sizeOf45 rfl rfl))) trivial (Ls.of (.cons .k2 (.cons .k2 (.cons .k2 (.cons .k2 (.cons .k1 .nil)))))) .nil
attribute [irreducible] chain_Chain_State
noncomputable def slices_Clone_api_Event (a0 : List api_Event) : Option ((List api_Event)) :=
  grd ((([] : List api_Event).length + a0.length) * 240 ≤ 140737488355328) <| some ((([] : List api_Event) ++ a0))
set_option maxRecDepth 20000 in
set_option maxHeartbeats 1000000 in
theorem S_slices_Clone_api_Event (v00 : Value) (a0 : List api_Event) (r : (List api_Event)) (h : slices_Clone_api_Event a0 = some r) :
    SpecF Tryz.prog 31 [v00] [] [rows 27 v00 (a0.map api_Event.cs)] (fun z : Value => True) (fun z => z) (fun z M => lst 70 27 z (r.map api_Event.cs) ::  M) (fun z M =>  M) := by
  refine .of func31 rfl ntmps31 rfl fun w0 D0 G0 => ?_
  unfold slices_Clone_api_Event at h
  refine .seq ?_
  refine .reg rfl ?_
  refine .op0 (OpP.toV (P.asg .k)) rfl ?_
  refine .nil ?_
  refine .then ?_
  refine .seq ?_
  refine .seq ?_
  refine .reg rfl ?_
  refine .opp (P.mov .g0) rfl ?_
  refine .opg (G.nilr (e := 70) .t0 Mm.m0 (by kernel_rfl) rfl) rfl fun n1 hz2 => ?_
  refine .nil ?_
  refine .then ?_
  refine .cond .t0 (fun c3 => ?_) (fun c3 => ?_)
  · have hx7 : a0 = [] := by simpa using hz2 c3
    replace h : some ([] : List api_Event) = some r := by rw [hx7] at h; simpa [grd] using h
    refine .seq ?_
    refine .reg rfl ?_
    refine .opp (P.asg .k) rfl ?_
    refine .nil ?_
    refine .then ?_
    refine .ret ?_
    refine .thr ?_
    cases h
    refine .lnil 70 27 ?_
    exact .finw nilSl (.r1 rfl (.tmp .g0)) trivial (Ls.of (.cons .k0 .nil)) .nil
  · refine .skip ?_
    refine .then ?_
    refine .seq ?_
    refine .reg rfl ?_
    refine .opg (G.bsl0 runUnderlying48 sizeOf70 rfl) rfl fun u4 _ => ?_
    refine .opp (P.mov .t1) rfl ?_
    obtain ⟨hb6, h⟩ := grd_eq h
    refine .opg (G.app (by_ := 240) .t1 .t0 .k0 (.inl Mm.m0) runUnderlying48 runUnderlying48 sizeOf70 typeInfo70 rfl rfl zeroValue70 rfl (one_map one_70 _) (by simpa using hb6) rfl) rfl fun u5 _ => ?_
    refine .conseq .k0 (q := lst 70 27 u5 ((([] : List api_Event) ++ a0).map api_Event.cs)) (fun _ hh => by simpa [List.map_append] using hh) ?_
    refine .opp (P.asg .t0) rfl ?_
    refine .nil ?_
    refine .then ?_
    refine .ret ?_
    cases h
    exact .finw u5 (.r1 rfl (.tmp .g0)) trivial (Ls.of (.cons .k0 .nil)) .nil
attribute [irreducible] slices_Clone_api_Event
noncomputable def chain_Chain_Events (a0 : chain_Chain) (a1 : Int) : Option ((List api_Event)) :=
  if (!(chain_Chain_is a0)) = true then (some ([] : List api_Event)) else (grd (okS a0.events.length (some (if (a0.events.length : Int) < (if 0 > a1 then 0 else a1) then (a0.events.length : Int) else if 0 > a1 then 0 else a1)) none none) <| Option.bind (slices_Clone_api_Event (slc a0.events (if (a0.events.length : Int) < (if 0 > a1 then 0 else a1) then (a0.events.length : Int) else if 0 > a1 then 0 else a1).toNat a0.events.length)) fun r4 => some r4)
set_option maxRecDepth 20000 in
set_option maxHeartbeats 1000000 in
theorem S_chain_Chain_Events (b00 : Nat) (a0 : chain_Chain) (z00a z00b z00c : Value) (a1 : Int) (r : (List api_Event)) (h : chain_Chain_Events a0 a1 = some r) :
    SpecF Tryz.prog 12 [pt b00 0, N a1] [blk b00 62 (chain_Chain.cs a0 z00a z00b z00c), lst 76 3 z00a (a0.s.Locks.map escrow_Lock.cs), lst 36 25 z00b (a0.pool.map api_Tx.cs), lst 70 27 z00c (a0.events.map api_Event.cs)] [] (fun z : Value => True) (fun z => z) (fun z M => blk b00 62 (chain_Chain.cs a0 z00a z00b z00c) :: lst 76 3 z00a (a0.s.Locks.map escrow_Lock.cs) :: lst 36 25 z00b (a0.pool.map api_Tx.cs) :: lst 70 27 z00c (a0.events.map api_Event.cs) :: lst 70 27 z (r.map api_Event.cs) ::  M) (fun z M =>  M) := by
  refine .of func12 rfl ntmps12 rfl fun w0 D0 G0 => ?_
  unfold chain_Chain_Events at h
  refine .seq ?_
  refine .reg rfl ?_
  refine .op0 (OpP.toV (P.asg .k)) rfl ?_
  refine .nil ?_
  refine .then ?_
  refine .seq ?_
  refine .seq ?_
  refine .reg rfl ?_
  refine .opp (P.mov .g0) rfl ?_
  refine .opg (G.call call25 (.cons .t0 .nil) (S_chain_Chain_is b00 a0 z00a z00b z00c _ rfl) (.cons .k0 (.cons .k0 (.cons .k0 (.cons .k0 .nil)))) .nil (fun _ _ => rfl) (fun _ _ => rfl) rfl) rfl fun _ _ => ?_
  refine .opp (P.not .t0) rfl ?_
  refine .nil ?_
  refine .then ?_
  refine .cond .t0 (fun c1 => ?_) (fun c1 => ?_)
  · rw [if_pos c1] at h
    refine .seq ?_
    refine .reg rfl ?_
    refine .opp (P.asg .k) rfl ?_
    refine .nil ?_
    refine .then ?_
    refine .ret ?_
    refine .thr ?_
    cases h
    refine .lnil 70 27 ?_
    exact .finw nilSl (.r1 rfl (.tmp .g0)) trivial (Ls.of (.cons .k1 (.cons .k1 (.cons .k1 (.cons .k1 (.cons .k0 .nil)))))) .nil
  · rw [if_neg (ne_true_of_eq_false c1)] at h
    refine .skip ?_
    refine .then ?_
    refine .seq ?_
    refine .draw 15 (.on 0 .pu (.on 1 .pu (.on 2 .pu (.on 4 .pu (.on 5 .pu (.on 6 .pu (.on 7 .pu (.on 8 .pu (.on 3 .ld (.on 9 .ld (.on 10 .ld (.on 11 .pu (.on 12 .pu (.on 13 .go (.on 14 .go .nl))))))))))))))) follows_mixed (.thn .body) (by kernel_rfl) ?_
    refine .dpu rfl (.n rfl) (P.mov .g0) rfl rfl ?_
    refine .dpu rfl (.n rfl) (P.nilc .t0) rfl rfl ?_
    refine .dpu rfl (.n rfl) (P.fa .t0 fa_62_2 rfl) rfl rfl ?_
    refine .dpu rfl (.n rfl) (P.mov .t2) rfl rfl ?_
    refine .dpu rfl (.n rfl) (P.max2 .t0 .k) rfl rfl ?_
    refine .dpu rfl (.n rfl) (P.mov .t2) rfl rfl ?_
    refine .dpu rfl (.n rfl) (P.nilc .t0) rfl rfl ?_
    refine .dpu rfl (.n rfl) (P.fa .t0 fa_62_2 rfl) rfl rfl ?_
    refine .dld rfl (.n rfl) (V.ld (v := z00c) .t2 .k0 (.one isAgg48 rfl)) (fun _ h => h) rfl rfl ?_
    refine .dld rfl (.n rfl) (V.ld (v := z00c) .t1 .k0 (.one isAgg48 rfl)) (fun _ h => h) rfl rfl ?_
    refine .dld rfl (.n rfl) (V.lnl (n := a0.events.length) .t0 .k3 map_len runUnderlying48) (fun _ h => h) rfl rfl ?_
    refine .dpu rfl (.n rfl) (P.min2 .t2 .t0) rfl rfl ?_
    obtain ⟨hb2, h⟩ := grd_eq h
    refine .slnql .k3 fun hq3 => ?_
    simp only [List.length_map] at hq3
    refine .dpu rfl (.n rfl) (P.slp (li := (some (if (a0.events.length : Int) < (if 0 > a1 then 0 else a1) then (a0.events.length : Int) else if 0 > a1 then 0 else a1))) (hj := none) (mk := none) .t1 (.some .t0) .none .none hq3 runUnderlying48 sizeOf70 (by simpa using hb2)) rfl rfl ?_
    obtain ⟨r4, hr5, h⟩ := bnd_eq h
    refine .dgo rfl (.n rfl) (G.calll call31 (.cons .t0 .nil) (S_slices_Clone_api_Event (slv z00c 27 (some (if (a0.events.length : Int) < (if 0 > a1 then 0 else a1) then (a0.events.length : Int) else if 0 > a1 then 0 else a1)) none none) (slc a0.events (if (a0.events.length : Int) < (if 0 > a1 then 0 else a1) then (a0.events.length : Int) else if 0 > a1 then 0 else a1).toNat a0.events.length) r4 hr5) .nil (.imp (List.mem_append_right _ Mm.m3) (fun _ h_ => by have h2_ := rows_slv (by rw [List.length_map]; exact hb2) (lst_rows h_); rw [slc_map, List.length_map] at h2_; exact h2_) .nil) (fun _ _ => rfl) rfl) (.inr fun _ _ _ h => (h.imp (Ls.of (.cons .k1 (.cons .k1 (.cons .k1 (.cons .k1 .nil)))))).ro Rs.nil) fun u6 _ => ?_
    refine .dgo rfl (.n rfl) (OpV.g (OpP.toV (P.asg .t0)) rfl) (.inr fun _ _ _ h => (h.imp (Ls.of (.cons .k1 (.cons .k1 (.cons .k1 (.cons .k1 .nil)))))).ro Rs.nil) fun _ _ => ?_
    refine .dnil ?_
    refine .then ?_
    refine .ret ?_
    cases h
    exact .finw u6 (.r1 rfl (.tmp .g0)) trivial (Ls.of (.cons .k1 (.cons .k1 (.cons .k1 (.cons .k1 (.cons .k0 .nil)))))) .nil
attribute [irreducible] chain_Chain_Events
noncomputable def purse_Book_Of (a0 : purse_Book) (a1 : Int) (a2 : Int) : Option (api_Wide) :=
  if (!(purse_at a1 a2)) = true then (some ⟨0, 0, 0, 0⟩) else (Option.bind (at_ (purse_Book.list a0) a1) fun (x4 : A2_api_Wide) => Option.bind (at_ (A2_api_Wide.list x4) a2) fun (x8 : api_Wide) => some x8)
set_option maxRecDepth 20000 in
set_option maxHeartbeats 1000000 in
theorem S_purse_Book_Of (a0 : purse_Book) (a1 : Int) (a2 : Int) (r : api_Wide) (h : purse_Book_Of a0 a1 a2 = some r) :
    SpecF Tryz.prog 22 [Ag (purse_Book.cs a0), N a1, N a2] [] [] (fun z : Unit => True) (fun z => Ag (api_Wide.cs r)) (fun z M =>  M) (fun z M =>  M) := by
  refine .of func22 rfl ntmps22 rfl fun w0 D0 G0 => ?_
  unfold purse_Book_Of at h
  refine .seq ?_
  refine .reg rfl ?_
  refine .opx (X.box (cs := (purse_Book.cs a0)) .t0 rfl) rfl fun b1 => ?_
  refine .opx (X.alc (cs := (api_Wide.cs ⟨0, 0, 0, 0⟩)) zeroValue30 rfl) rfl fun b2 => ?_
  refine .nil ?_
  refine .then ?_
  refine .seq ?_
  refine .seq ?_
  refine .reg rfl ?_
  refine .opp (P.mov .g2) rfl ?_
  refine .opp (P.mov .g4) rfl ?_
  refine .opg (G.call call40 (.cons .t1 (.cons .t0 .nil)) (S_purse_at a1 a2 _ rfl) .nil .nil (fun _ _ => rfl) (fun _ _ => rfl) rfl) rfl fun _ _ => ?_
  refine .opp (P.not .t0) rfl ?_
  refine .nil ?_
  refine .then ?_
  refine .cond .t0 (fun c3 => ?_) (fun c3 => ?_)
  · rw [if_pos c3] at h
    refine .seq ?_
    refine .reg rfl ?_
    refine .opp (P.bld (v := Ag (api_Wide.cs ⟨0, 0, 0, 0⟩)) .nil (bld_runA zeroValue30 runUnderlying30 sizeOf28 (by kernel_rfl))) rfl ?_
    refine .opg (G.str .t0 .g0 .k0 (.mk (cs' := (api_Wide.cs ⟨0, 0, 0, 0⟩)) sizeOf30 rfl rfl rfl rfl)) rfl fun _ _ => ?_
    refine .nil ?_
    refine .then ?_
    refine .ret ?_
    refine .thr ?_
    cases h
    exact .finw () (.r1 rfl (.cell .g0 .k0 (.agg isAgg30 sizeOf30 rfl rfl))) trivial (Ls.of .nil) .nil
  · rw [if_neg (ne_true_of_eq_false c3)] at h
    refine .skip ?_
    refine .then ?_
    refine .seq ?_
    refine .reg rfl ?_
    refine .opp (P.mov .t2) rfl ?_
    refine .opp (P.mov .t3) rfl ?_
    obtain ⟨x4, hx5, h⟩ := bnd_eq h
    obtain ⟨i6, hi7, hx5⟩ := at_eq hx5
    have hi7_ : (a1).toNat = i6 := by rw [hi7]; rfl
    refine .opp (P.iad (i := i6) (off' := (0 + i6 * 8)) .t1 hi7 .t2 runUnderlying41 sizeOf39 (lt_of_get hx5) rfl) rfl ?_
    obtain ⟨x8, hx9, h⟩ := bnd_eq h
    obtain ⟨i10, hi11, hx9⟩ := at_eq hx9
    have hi11_ : (a2).toNat = i10 := by rw [hi11]; rfl
    refine .opp (P.iad (i := i10) (off' := ((0 + i6 * 8) + i10 * 4)) .t1 hi11 .t0 runUnderlying39 sizeOf30 (lt_of_get hx9) rfl) rfl ?_
    refine .op (V.ld (v := Ag (api_Wide.cs x8)) .t0 .k1 (by rcases i6 with _ | _ | _ | _ | _ | _ | _ | _ | _ <;> first | (obtain rfl := Option.some.inj hx5; rcases i10 with _ | _ | _ <;> first | (obtain rfl := Option.some.inj hx9; exact LdV.agg isAgg30 sizeOf30 rfl rfl) | (cases hx9; done)) | (cases hx5; done))) rfl ?_
    refine .opg (G.str .t0 .g0 .k0 (.mk (cs' := (api_Wide.cs x8)) sizeOf30 rfl rfl rfl rfl)) rfl fun _ _ => ?_
    refine .nil ?_
    refine .then ?_
    refine .ret ?_
    cases h
    exact .finw () (.r1 rfl (.cell .g0 .k0 (.agg isAgg30 sizeOf30 rfl rfl))) trivial (Ls.of .nil) .nil
attribute [irreducible] purse_Book_Of
noncomputable def narrowslaw31_HistoryPurses (a0 : Int) (a1 : Int) (a2 : List api_Tx) (a3 : List Int) : Option (Bool) :=
  Option.bind (narrowslaw31_alive) fun r1 => if (!r1) = true then (some false) else (Option.bind (loopW (fun (s8 : Int × chain_Chain) => thn (if (decide (s8.1 < (a2.length : Int))) = true then (decide (s8.1 < 30)) else false) fun (y17 : Bool) => if y17 = true then (Option.bind (Option.bind (at_ a2 s8.1) fun (x28 : api_Tx) => Option.bind (chain_Chain_Submit s8.2 x28) fun r32 => if (decide (s8.1 < (a3.length : Int))) = true then (Option.bind (at_ a3 s8.1) fun (x39 : Int) => Option.bind (chain_Chain_Include r32.2 x39) fun r43 => Option.bind (at_ a3 s8.1) fun (x51 : Int) => Option.bind (chain_Chain_Rise r43.2 (bandK .i64 x51 7)) fun r55 => some r55) else (some r32.2)) fun (y22 : chain_Chain) => some (.nx ((IntKind.i64.wrap (s8.1 + 1), y22)))) else (some (.br (s8.1, s8.2)))) ((0, (chain_New a0 a1)))) fun o10 => Lo.on o10 fun (s8 : Int × chain_Chain) => Option.bind (chain_Chain_State s8.2) fun r60 => Option.bind (loopW (fun (s65 : Int) => if (decide (s65 < 16)) = true then (Option.bind (chain_Chain_Events s8.2 0) fun r75 => Option.bind (history_Balance r75 r60.Side (IntKind.i64.wrap (Int.tdiv s65 2)) (Int.tmod s65 2)) fun r78 => Option.bind (if (!r78.2) = true then (some true) else (Option.bind (purse_Book_Of r60.Purse (IntKind.i64.wrap (Int.tdiv s65 2)) (Int.tmod s65 2)) fun r85 => some (decide ((r78.1 : api_Wide) ≠ (r85 : api_Wide))))) fun (y81 : Bool) => if y81 = true then (Option.map Ct.rt (some false)) else (some (.nx (IntKind.i64.wrap (s65 + 1))))) else (some (.br s65))) 0) fun o67 => Lo.on o67 fun (s65 : Int) => some true)
set_option maxRecDepth 20000 in
set_option maxHeartbeats 1000000 in
theorem S_narrowslaw31_HistoryPurses (a0 : Int) (a1 : Int) (v02 : Value) (a2 : List api_Tx) (v03 : Value) (a3 : List Int) (r : Bool) (h : narrowslaw31_HistoryPurses a0 a1 a2 a3 = some r) :
    SpecF Tryz.prog 5 [N a0, N a1, v02, v03] [] [rows 25 v02 (a2.map api_Tx.cs), rows 1 v03 (a3.map (fun x => [N x]))] (fun z : Unit => True) (fun z => Bo r) (fun z M =>  M) (fun z M =>  M) := by
  refine .of func5 rfl ntmps5 rfl fun w0 D0 G0 => ?_
  unfold narrowslaw31_HistoryPurses at h
  refine .seq ?_
  refine .reg rfl ?_
  refine .op0 (OpP.toV (P.asg .k)) rfl ?_
  refine .nil ?_
  refine .then ?_
  refine .seq ?_
  refine .seq ?_
  refine .reg rfl ?_
  obtain ⟨r1, hr2, h⟩ := bnd_eq h
  refine .opg (G.call call20 .nil (S_narrowslaw31_alive  r1 hr2) .nil .nil (fun _ _ => rfl) (fun _ _ => rfl) rfl) rfl fun _ _ => ?_
  refine .opp (P.not .t0) rfl ?_
  refine .nil ?_
  refine .then ?_
  refine .cond .t0 (fun c3 => ?_) (fun c3 => ?_)
  · rw [if_pos c3] at h
    refine .seq ?_
    refine .reg rfl ?_
    refine .opp (P.asg .k) rfl ?_
    refine .nil ?_
    refine .then ?_
    refine .ret ?_
    refine .thr ?_
    cases h
    exact .finw () (.r1 rfl (.tmp .g0)) trivial (Ls.of .nil) .nil
  · rw [if_neg (ne_true_of_eq_false c3)] at h
    refine .skip ?_
    refine .then ?_
    refine .seq ?_
    refine .reg rfl ?_
    refine .opp (P.mov .t0) rfl ?_
    refine .opp (P.mov .t1) rfl ?_
    refine .opg (G.call call7 (.cons .t1 (.cons .t0 .nil)) (S_chain_New a0 a1 _ rfl) .nil .nil (fun _ _ => rfl) (fun _ _ => rfl) rfl) rfl fun ⟨b4, u5, u6, u7⟩ _ => ?_
    refine .opp (P.asg .t0) rfl ?_
    refine .nil ?_
    refine .then ?_
    refine .seq ?_
    refine .seq ?_
    refine .reg rfl ?_
    refine .opp (P.asg .k) rfl ?_
    refine .nil ?_
    refine .then ?_
    refine .block ?_
    obtain ⟨o10, ho11, h⟩ := bnd_eq h
    refine .loopW (γ := Value × Value × Value) (fun (s8 : Int × chain_Chain) z9 => [(10, N s8.1), (9, pt b4 0), (2, v02), (3, v03)]) (fun (s8 : Int × chain_Chain) z9 => [blk b4 62 (chain_Chain.cs s8.2 z9.1 z9.2.1 z9.2.2), lst 76 3 z9.1 (s8.2.s.Locks.map escrow_Lock.cs), lst 36 25 z9.2.1 (s8.2.pool.map api_Tx.cs), lst 70 27 z9.2.2 (s8.2.events.map api_Event.cs)]) (fun (s8 : Int × chain_Chain) z9 => [rows 25 v02 (a2.map api_Tx.cs), rows 1 v03 (a3.map (fun x => [N x]))]) ⟨u5, u6, u7⟩ ho11 (.cons Mm.m0 (.cons Mm.m1 (.cons Mm.m2 (.cons Mm.m3 .nil)))) (.of (.cons .k0 (.cons .k0 (.cons .k0 (.cons .k0 .nil))))) (.cons Mm.m0 (.cons Mm.m1 .nil)) (fun n16 s8 z9 hr14 => ?_)
    obtain ⟨ct15, hc12, hn13⟩ := loopK_at hr14
    refine .seq ?_
    obtain ⟨y17, hj19, hc12⟩ := thn_eq hc12
    refine .cutx (γ := Unit) (E1 := fun z18 => [(27, Bo y17), (10, N s8.1), (9, pt b4 0), (2, v02), (3, v03)]) (L1 := fun z18 => [blk b4 62 (chain_Chain.cs s8.2 z9.1 z9.2.1 z9.2.2), lst 76 3 z9.1 (s8.2.s.Locks.map escrow_Lock.cs), lst 36 25 z9.2.1 (s8.2.pool.map api_Tx.cs), lst 70 27 z9.2.2 (s8.2.events.map api_Event.cs)]) (R1 := fun z18 => [rows 25 v02 (a2.map api_Tx.cs), rows 1 v03 (a3.map (fun x => [N x]))]) ?_ (fun z18 => ?_)
    · clear hc12
      refine .reg rfl ?_
      refine .opp (P.mov .g0) rfl ?_
      refine .opp (P.mov .g3) rfl ?_
      refine .op (V.lnr (n := a2.length) .t0 Mm.m0 map_len runUnderlying22) rfl ?_
      refine .opp (P.bin .t1 .t0 .lss) rfl ?_
      refine .opp (P.mov .t0) rfl ?_
      refine .split .k0 (fun c20 => ?_) (fun c20 => ?_)
      · rw [if_pos c20] at hj19
        refine .gyes rfl .g0 ?_
        refine .opp (P.mov .g1) rfl ?_
        refine .gyes rfl .g1 ?_
        refine .opp (P.bin .t0 .k .lss) rfl ?_
        refine .opp (P.pickT .t1 .t0) rfl ?_
        refine .nil ?_
        subst hj19
        exact .stj () (.cons Mm.m0 (.cons Mm.m1 (.cons Mm.m2 (.cons Mm.m3 (.cons Mm.m4 .nil))))) (.of (.cons .k0 (.cons .k0 (.cons .k0 (.cons .k0 .nil))))) (.cons Mm.m0 (.cons Mm.m1 .nil))
      · rw [if_neg (ne_true_of_eq_false c20)] at hj19
        refine .gno rfl .g0 rfl rfl ?_
        refine .gno rfl .g0 rfl rfl ?_
        refine .opp (P.pickF .t0 .k) rfl ?_
        refine .nil ?_
        subst hj19
        exact .stj () (.cons Mm.m0 (.cons Mm.m1 (.cons Mm.m2 (.cons Mm.m3 (.cons Mm.m4 .nil))))) (.of (.cons .k0 (.cons .k0 (.cons .k0 (.cons .k0 .nil))))) (.cons Mm.m0 (.cons Mm.m1 .nil))
    · clear hj19
      refine .cond .t0 (fun c21 => ?_) (fun c21 => ?_)
      · rw [if_pos c21] at hc12
        refine .skip ?_
        refine .then ?_
        obtain ⟨y22, hj24, hc12⟩ := bnd_eq hc12
        refine .cutx (γ := Value × Value × Value) (E1 := fun z23 => [(10, N s8.1), (9, pt b4 0), (2, v02), (3, v03)]) (L1 := fun z23 => [blk b4 62 (chain_Chain.cs y22 z23.1 z23.2.1 z23.2.2), lst 76 3 z23.1 (y22.s.Locks.map escrow_Lock.cs), lst 36 25 z23.2.1 (y22.pool.map api_Tx.cs), lst 70 27 z23.2.2 (y22.events.map api_Event.cs)]) (R1 := fun z23 => [rows 25 v02 (a2.map api_Tx.cs), rows 1 v03 (a3.map (fun x => [N x]))]) ?_ (fun z23 => ?_)
        · clear hc12
          refine .block ?_
          refine .seq ?_
          refine .reg rfl ?_
          refine .opp (P.mov .g1) rfl ?_
          refine .opp (P.mov .g3) rfl ?_
          refine .opp (P.mov .g2) rfl ?_
          obtain ⟨x28, hx29, hj24⟩ := bnd_eq hj24
          obtain ⟨i30, hi31, hx29⟩ := at_eq hx29
          have hi31_ : (s8.1).toNat = i30 := by rw [hi31]; rfl
          refine .ixq Mm.m0 (map_get hx29) fun p25 q26 hq27 => ?_
          refine .opp (P.ixi (i := i30) .t0 hi31 .t0 hq27 runUnderlying22 sizeOf36) rfl ?_
          refine .op (V.ldx0 (u := Ag (api_Tx.cs x28)) .t0 hq27 Mm.m0 (map_get hx29) (.agg isAgg36 sizeOf36 rfl rfl)) rfl ?_
          obtain ⟨r32, hr33, hj24⟩ := bnd_eq hj24
          refine .opg (G.call call8 (.cons .t1 (.cons .t0 .nil)) (S_chain_Chain_Submit b4 s8.2 z9.1 z9.2.1 z9.2.2 x28 r32 hr33) (.cons .k0 (.cons .k0 (.cons .k0 (.cons .k0 .nil)))) .nil (fun _ _ => rfl) (fun _ _ => rfl) rfl) rfl fun u34 _ => ?_
          refine .drop .k0 ?_
          refine .nil ?_
          refine .then ?_
          refine .seq ?_
          refine .reg rfl ?_
          refine .opp (P.mov .g0) rfl ?_
          refine .opp (P.mov .g4) rfl ?_
          refine .op (V.lnr (n := a3.length) .t0 Mm.m1 map_len runUnderlying23) rfl ?_
          refine .opp (P.bin .t1 .t0 .lss) rfl ?_
          refine .nil ?_
          refine .then ?_
          refine .cond .t0 (fun c35 => ?_) (fun c35 => ?_)
          · rw [if_pos c35] at hj24
            refine .seq ?_
            refine .reg rfl ?_
            refine .opp (P.mov .g1) rfl ?_
            refine .opp (P.mov .g4) rfl ?_
            refine .opp (P.mov .g2) rfl ?_
            obtain ⟨x39, hx40, hj24⟩ := bnd_eq hj24
            obtain ⟨i41, hi42, hx40⟩ := at_eq hx40
            have hi42_ : (s8.1).toNat = i41 := by rw [hi42]; rfl
            refine .ixq Mm.m1 (map_get hx40) fun p36 q37 hq38 => ?_
            refine .opp (P.ixi (i := i41) .t0 hi42 .t0 hq38 runUnderlying23 sizeOf3) rfl ?_
            refine .op (V.ldx0 (u := N x39) .t0 hq38 Mm.m1 (map_get hx40) (.one isAgg3 rfl)) rfl ?_
            obtain ⟨r43, hr44, hj24⟩ := bnd_eq hj24
            refine .opg (G.call call9 (.cons .t1 (.cons .t0 .nil)) (S_chain_Chain_Include b4 r32.2 z9.1 u34 z9.2.2 x39 r43 hr44) (.cons .k0 (.cons .k0 (.cons .k0 (.cons .k0 .nil)))) .nil (fun _ _ => rfl) (fun _ _ => rfl) rfl) rfl fun ⟨u45, u46, u47⟩ _ => ?_
            refine .drop .k0 ?_
            refine .nil ?_
            refine .then ?_
            refine .reg rfl ?_
            refine .opp (P.mov .g1) rfl ?_
            refine .opp (P.mov .g4) rfl ?_
            refine .opp (P.mov .g2) rfl ?_
            obtain ⟨x51, hx52, hj24⟩ := bnd_eq hj24
            obtain ⟨i53, hi54, hx52⟩ := at_eq hx52
            have hi54_ : (s8.1).toNat = i53 := by rw [hi54]; rfl
            refine .ixq Mm.m1 (map_get hx52) fun p48 q49 hq50 => ?_
            refine .opp (P.ixi (i := i53) .t0 hi54 .t0 hq50 runUnderlying23 sizeOf3) rfl ?_
            refine .op (V.ldx0 (u := N x51) .t0 hq50 Mm.m1 (map_get hx52) (.one isAgg3 rfl)) rfl ?_
            refine .opp (P.bin .t0 .k .and) rfl ?_
            obtain ⟨r55, hr56, hj24⟩ := bnd_eq hj24
            refine .opg (G.call call10 (.cons .t1 (.cons .t0 .nil)) (S_chain_Chain_Rise b4 r43.2 u45 u46 u47 (bandK .i64 x51 7) r55 hr56) (.cons .k0 (.cons .k0 (.cons .k0 (.cons .k0 .nil)))) .nil (fun _ _ => rfl) (fun _ _ => rfl) rfl) rfl fun u57 _ => ?_
            refine .drop .k0 ?_
            refine .nil ?_
            refine .inn ?_
            cases hj24
            exact .stj ⟨u57, u46, u47⟩ (.cons Mm.m0 (.cons Mm.m1 (.cons Mm.m2 (.cons Mm.m3 .nil)))) (.of (.cons .k0 (.cons .k0 (.cons .k0 (.cons .k0 .nil))))) (.cons Mm.m0 (.cons Mm.m1 .nil))
          · rw [if_neg (ne_true_of_eq_false c35)] at hj24
            refine .skip ?_
            refine .inn ?_
            cases hj24
            exact .stj ⟨z9.1, u34, z9.2.2⟩ (.cons Mm.m0 (.cons Mm.m1 (.cons Mm.m2 (.cons Mm.m3 .nil)))) (.of (.cons .k0 (.cons .k0 (.cons .k0 (.cons .k0 .nil))))) (.cons Mm.m0 (.cons Mm.m1 .nil))
        · clear hj24
          refine .reg rfl ?_
          refine .opp (P.mov .g0) rfl ?_
          refine .opp (P.bin .t0 .k .add) rfl ?_
          refine .drop .k1 ?_
          refine .opp (P.asg .t0) rfl ?_
          refine .nil ?_
          cases hc12
          obtain ⟨m58, hm59, hn13⟩ := hn13
          exact .rdW ((IntKind.i64.wrap (s8.1 + 1), y22)) ⟨z23.1, z23.2.1, z23.2.2⟩ hm59 hn13 (.cons Mm.m0 (.cons Mm.m1 (.cons Mm.m2 (.cons Mm.m3 .nil)))) (.of (.cons .k0 (.cons .k0 (.cons .k0 (.cons .k0 .nil))))) (.cons Mm.m0 (.cons Mm.m1 .nil))
      · rw [if_neg (ne_true_of_eq_false c21)] at hc12
        refine .exit ?_
        refine .thx ?_
        cases hc12
        refine .told (γ := Value × Value × Value) h hn13 (fun (s8 : Int × chain_Chain) z9 => [(10, N s8.1), (9, pt b4 0), (2, v02), (3, v03)]) (fun (s8 : Int × chain_Chain) z9 => [blk b4 62 (chain_Chain.cs s8.2 z9.1 z9.2.1 z9.2.2), lst 76 3 z9.1 (s8.2.s.Locks.map escrow_Lock.cs), lst 36 25 z9.2.1 (s8.2.pool.map api_Tx.cs), lst 70 27 z9.2.2 (s8.2.events.map api_Event.cs)]) (fun (s8 : Int × chain_Chain) z9 => [rows 25 v02 (a2.map api_Tx.cs), rows 1 v03 (a3.map (fun x => [N x]))]) ⟨z9.1, z9.2.1, z9.2.2⟩ (.cons Mm.m0 (.cons Mm.m1 (.cons Mm.m2 (.cons Mm.m3 .nil)))) (.of (.cons .k0 (.cons .k0 (.cons .k0 (.cons .k0 .nil))))) (.cons Mm.m0 (.cons Mm.m1 .nil)) (fun s8 z9 h' => ?_)
        replace h := h'
        refine .thx ?_
        refine .inb ?_
        refine .then ?_
        refine .seq ?_
        refine .reg rfl ?_
        refine .opp (P.mov .g1) rfl ?_
        obtain ⟨r60, hr61, h⟩ := bnd_eq h
        refine .opg (G.call call13 (.cons .t0 .nil) (S_chain_Chain_State b4 s8.2 z9.1 z9.2.1 z9.2.2 r60 hr61) (.cons .k0 (.cons .k0 (.cons .k0 (.cons .k0 .nil)))) .nil (fun _ _ => rfl) (fun _ _ => rfl) rfl) rfl fun u62 _ => ?_
        refine .opx (X.alc (cs := (escrow_State.cs ⟨0, 0, ⟨⟨⟨0, 0, 0, 0⟩, ⟨0, 0, 0, 0⟩⟩, ⟨⟨0, 0, 0, 0⟩, ⟨0, 0, 0, 0⟩⟩, ⟨⟨0, 0, 0, 0⟩, ⟨0, 0, 0, 0⟩⟩, ⟨⟨0, 0, 0, 0⟩, ⟨0, 0, 0, 0⟩⟩, ⟨⟨0, 0, 0, 0⟩, ⟨0, 0, 0, 0⟩⟩, ⟨⟨0, 0, 0, 0⟩, ⟨0, 0, 0, 0⟩⟩, ⟨⟨0, 0, 0, 0⟩, ⟨0, 0, 0, 0⟩⟩, ⟨⟨0, 0, 0, 0⟩, ⟨0, 0, 0, 0⟩⟩⟩, ⟨⟨⟨0, 0, 0, 0⟩, ⟨0, 0, 0, 0⟩⟩, ⟨⟨0, 0, 0, 0⟩, ⟨0, 0, 0, 0⟩⟩, ⟨⟨0, 0, 0, 0⟩, ⟨0, 0, 0, 0⟩⟩, ⟨⟨0, 0, 0, 0⟩, ⟨0, 0, 0, 0⟩⟩, ⟨⟨0, 0, 0, 0⟩, ⟨0, 0, 0, 0⟩⟩, ⟨⟨0, 0, 0, 0⟩, ⟨0, 0, 0, 0⟩⟩, ⟨⟨0, 0, 0, 0⟩, ⟨0, 0, 0, 0⟩⟩, ⟨⟨0, 0, 0, 0⟩, ⟨0, 0, 0, 0⟩⟩⟩, ⟨0, 0, 0, 0, 0, 0, 0, 0⟩, ⟨⟨0, 0, 0, 0⟩, ⟨0, 0, 0, 0⟩⟩, ⟨0, 0, 0, 0⟩, []⟩ nilSl)) zeroValue45 rfl) rfl fun b63 => ?_
        refine .onel .k5 fun ho64 => ?_
        refine .opg (G.str .t1 .g0 .k0 (.mk (cs' := (escrow_State.cs r60 u62)) sizeOf45 rfl (onez_45 _ ho64) rfl rfl)) rfl fun _ _ => ?_
        refine .nil ?_
        refine .then ?_
        refine .seq ?_
        refine .seq ?_
        refine .reg rfl ?_
        refine .opp (P.asg .k) rfl ?_
        refine .nil ?_
        refine .then ?_
        refine .block ?_
        obtain ⟨o67, ho68, h⟩ := bnd_eq h
        refine .loopW (γ := Unit) (fun (s65 : Int) z66 => [(12, N s65), (11, pt b63 0), (9, pt b4 0)]) (fun (s65 : Int) z66 => [blk b63 45 (escrow_State.cs r60 u62), blk b4 62 (chain_Chain.cs s8.2 z9.1 z9.2.1 z9.2.2), lst 76 3 u62 (r60.Locks.map escrow_Lock.cs), lst 76 3 z9.1 (s8.2.s.Locks.map escrow_Lock.cs), lst 36 25 z9.2.1 (s8.2.pool.map api_Tx.cs), lst 70 27 z9.2.2 (s8.2.events.map api_Event.cs)]) (fun (s65 : Int) z66 => [rows 25 v02 (a2.map api_Tx.cs), rows 1 v03 (a3.map (fun x => [N x]))]) () ho68 (.cons Mm.m0 (.cons Mm.m1 (.cons Mm.m3 .nil))) (.of (.cons .k0 (.cons .k0 (.cons .k3 (.cons .k0 (.cons .k0 (.cons .k0 .nil))))))) (.cons Mm.m0 (.cons Mm.m1 .nil)) (fun n73 s65 z66 hr71 => ?_)
        obtain ⟨ct72, hc69, hn70⟩ := loopK_at hr71
        refine .seq ?_
        refine .seq ?_
        refine .reg rfl ?_
        refine .opp (P.mov .g0) rfl ?_
        refine .opp (P.bin .t0 .k .lss) rfl ?_
        refine .nil ?_
        refine .then ?_
        refine .cond .t0 (fun c74 => ?_) (fun c74 => ?_)
        · rw [if_pos c74] at hc69
          refine .skip ?_
          refine .then ?_
          refine .seq ?_
          refine .block ?_
          refine .seq ?_
          obtain ⟨r75, hr76, hc69⟩ := bnd_eq hc69
          obtain ⟨r78, hr79, hc69⟩ := bnd_eq hc69
          refine .dcut (γ := Value × Nat) (φ := fun _ => True) (E1 := fun x_ => [(14, Bo r78.2), (13, pt x_.2 0), (12, N s65), (11, pt b63 0), (9, pt b4 0)]) (L1 := fun x_ => [blk x_.2 30 (api_Wide.cs r78.1), blk b4 62 (chain_Chain.cs s8.2 z9.1 z9.2.1 z9.2.2), lst 76 3 z9.1 (s8.2.s.Locks.map escrow_Lock.cs), lst 36 25 z9.2.1 (s8.2.pool.map api_Tx.cs), lst 70 27 z9.2.2 (s8.2.events.map api_Event.cs), blk b63 45 (escrow_State.cs r60 u62), lst 76 3 u62 (r60.Locks.map escrow_Lock.cs)]) (R1 := fun x_ => [rows 27 x_.1 (r75.map api_Event.cs), rows 25 v02 (a2.map api_Tx.cs), rows 1 v03 (a3.map (fun x => [N x]))]) ?_ (fun x_ _ => ?_)
          · refine .draw 15 (.on 0 .pu (.on 2 .pu (.on 4 .pu (.on 5 .pu (.on 6 .pu (.on 7 .pu (.on 3 .ld (.fk 1 12 (.fk 8 12 (.on 9 .pu (.on 10 .pu (.on 11 .pu (.on 12 .go (.on 13 .go (.on 14 .go .nl)))))) (.on 8 .go (.on 9 .pu (.on 10 .pu (.on 11 .pu (.on 13 .go (.on 14 .go .nl))))))) (.on 1 .go (.on 8 .go (.on 9 .pu (.on 10 .pu (.on 11 .pu (.on 13 .go (.on 14 .go .nl))))))))))))))) follows_mixed (.thn (.thn (.inb (.thn (.thn (.inb (.thn .body))))))) (by kernel_rfl) ?_
            refine .dpu rfl (.n rfl) (P.mov .g2) rfl rfl ?_
            refine .dpu rfl (.n rfl) (P.fa .g2 fa_45_0 rfl) rfl rfl ?_
            refine .dpu rfl (.n rfl) (P.mov .g2) rfl rfl ?_
            refine .dpu rfl (.n rfl) (P.bin .t0 .k (.quo (by decide))) rfl rfl ?_
            refine .dpu rfl (.n rfl) (P.mov .g3) rfl rfl ?_
            refine .dpu rfl (.n rfl) (P.bin .t0 .k (.rem (by decide))) rfl rfl ?_
            refine .dld rfl (.n rfl) (V.ld (v := N r60.Side) .t2 .k0 (.one isAgg3 rfl)) (fun _ h => h) rfl rfl ?_
            refine .dfk ?_ ?_
            · refine .dgo rfl (.n rfl) (G.call call12 (.cons .t3 (.cons .k .nil)) (S_chain_Chain_Events b4 s8.2 z9.1 z9.2.1 z9.2.2 0 r75 hr76) (.cons .k1 (.cons .k2 (.cons .k2 (.cons .k2 .nil)))) .nil (fun _ _ => rfl) (fun _ _ => rfl) rfl) (.inr fun _ _ _ h => (h.imp (Ls.of (.cons .k5 (.cons .k0 (.cons .k4 (.cons .k0 (.cons .k0 (.cons .k0 .nil)))))))).ro (Rs.cons Mm.m0 (Rs.cons Mm.m1 Rs.nil))) fun u77 _ => ?_
              refine .dfk ?_ ?_
              · refine .frz .k4 ?_
                refine .dgo rfl (.n rfl) (G.call call21 (.cons .t0 (.cons .t0 (.cons .t1 (.cons .t0 .nil)))) (S_history_Balance u77 r75 r60.Side (IntKind.i64.wrap (Int.tdiv s65 2)) (Int.tmod s65 2) r78 hr79) .nil (.cons Mm.m0 .nil) (fun _ _ => rfl) (fun _ _ => rfl) rfl) (.inr fun _ _ _ h => (h.imp (Ls.of (.cons .k4 (.cons .k0 (.cons .k3 (.cons .k0 (.cons .k0 (.cons .k0 .nil)))))))).ro (Rs.cons Mm.m1 (Rs.cons Mm.m2 Rs.nil))) fun _ _ => ?_
                refine .dpu rfl (.n rfl) (P.mov .t0) rfl rfl ?_
                refine .dpu rfl (.n rfl) (P.ext (v := Ag (api_Wide.cs r78.1)) .g0 rfl) rfl rfl ?_
                refine .dpu rfl (.n rfl) (P.ext (v := Bo r78.2) .t1 rfl) rfl rfl ?_
                refine .dgo rfl (.n rfl) (OpX.g (X.alc (cs := (api_Wide.cs ⟨0, 0, 0, 0⟩)) zeroValue30 rfl) rfl) (.inr fun _ _ _ h => (h.imp (Ls.of (.cons .k5 (.cons .k1 (.cons .k4 (.cons .k1 (.cons .k1 (.cons .k1 .nil)))))))).ro (Rs.cons Mm.m1 (Rs.cons Mm.m2 Rs.nil))) fun b80 _ => ?_
                refine .dgo rfl (.n rfl) (G.str .t2 .g0 .k0 (.mk (cs' := (api_Wide.cs r78.1)) sizeOf30 rfl rfl rfl rfl)) (.inr fun _ _ _ h => (h.imp (Ls.of (.cons .k5 (.cons .k1 (.cons .k4 (.cons .k1 (.cons .k1 (.cons .k1 .nil)))))))).ro (Rs.cons Mm.m1 (Rs.cons Mm.m2 Rs.nil))) fun _ _ => ?_
                refine .dgo rfl (.n rfl) (OpV.g (OpP.toV (P.asg .t1)) rfl) (.inr fun _ _ _ h => (h.imp (Ls.of (.cons .k5 (.cons .k1 (.cons .k4 (.cons .k1 (.cons .k1 (.cons .k1 .nil)))))))).ro (Rs.cons Mm.m1 (Rs.cons Mm.m2 Rs.nil))) fun _ _ => ?_
                refine .dnil ?_
                exact .dst ⟨u77, b80⟩ trivial (.cons Mm.m0 (.cons Mm.m1 (.cons Mm.m2 (.cons Mm.m3 (.cons Mm.m4 .nil))))) (Ls.of (.cons .k0 (.cons .k0 (.cons .k0 (.cons .k0 (.cons .k0 (.cons .k0 (.cons .k0 .nil)))))))) (.cons Mm.m0 (.cons Mm.m1 (.cons Mm.m2 .nil)))
              · refine .dgo rfl (.n rfl) (OpX.g (X.alc (cs := (api_Wide.cs ⟨0, 0, 0, 0⟩)) zeroValue30 rfl) rfl) (.inr fun _ _ _ h => (h.imp (Ls.of (.cons .k6 (.cons .k1 (.cons .k5 (.cons .k1 (.cons .k1 (.cons .k1 .nil)))))))).ro (Rs.cons Mm.m0 (Rs.cons Mm.m1 Rs.nil))) fun b80 _ => ?_
                refine .frz .k5 ?_
                refine .dgo rfl (.n rfl) (G.call call21 (.cons .t1 (.cons .t1 (.cons .t2 (.cons .t1 .nil)))) (S_history_Balance u77 r75 r60.Side (IntKind.i64.wrap (Int.tdiv s65 2)) (Int.tmod s65 2) r78 hr79) .nil (.cons Mm.m0 .nil) (fun _ _ => rfl) (fun _ _ => rfl) rfl) (.inr fun _ _ _ h => (h.imp (Ls.of (.cons .k5 (.cons .k1 (.cons .k4 (.cons .k1 (.cons .k1 (.cons .k1 .nil)))))))).ro (Rs.cons Mm.m1 (Rs.cons Mm.m2 Rs.nil))) fun _ _ => ?_
                refine .dpu rfl (.n rfl) (P.mov .t0) rfl rfl ?_
                refine .dpu rfl (.n rfl) (P.ext (v := Ag (api_Wide.cs r78.1)) .g0 rfl) rfl rfl ?_
                refine .dpu rfl (.n rfl) (P.ext (v := Bo r78.2) .t1 rfl) rfl rfl ?_
                refine .dgo rfl (.n rfl) (G.str .t1 .g1 .k0 (.mk (cs' := (api_Wide.cs r78.1)) sizeOf30 rfl rfl rfl rfl)) (.inr fun _ _ _ h => (h.imp (Ls.of (.cons .k5 (.cons .k1 (.cons .k4 (.cons .k1 (.cons .k1 (.cons .k1 .nil)))))))).ro (Rs.cons Mm.m1 (Rs.cons Mm.m2 Rs.nil))) fun _ _ => ?_
                refine .dgo rfl (.n rfl) (OpV.g (OpP.toV (P.asg .t0)) rfl) (.inr fun _ _ _ h => (h.imp (Ls.of (.cons .k5 (.cons .k1 (.cons .k4 (.cons .k1 (.cons .k1 (.cons .k1 .nil)))))))).ro (Rs.cons Mm.m1 (Rs.cons Mm.m2 Rs.nil))) fun _ _ => ?_
                refine .dnil ?_
                exact .dst ⟨u77, b80⟩ trivial (.cons Mm.m0 (.cons Mm.m1 (.cons Mm.m2 (.cons Mm.m3 (.cons Mm.m4 .nil))))) (Ls.of (.cons .k0 (.cons .k0 (.cons .k0 (.cons .k0 (.cons .k0 (.cons .k0 (.cons .k0 .nil)))))))) (.cons Mm.m0 (.cons Mm.m1 (.cons Mm.m2 .nil)))
            · refine .dgo rfl (.n rfl) (OpX.g (X.alc (cs := (api_Wide.cs ⟨0, 0, 0, 0⟩)) zeroValue30 rfl) rfl) (.inr fun _ _ _ h => (h.imp (Ls.of (.cons .k1 (.cons .k1 (.cons .k1 (.cons .k1 (.cons .k1 (.cons .k1 .nil)))))))).ro (Rs.cons Mm.m0 (Rs.cons Mm.m1 Rs.nil))) fun b80 _ => ?_
              refine .dgo rfl (.n rfl) (G.call call12 (.cons .t4 (.cons .k .nil)) (S_chain_Chain_Events b4 s8.2 z9.1 z9.2.1 z9.2.2 0 r75 hr76) (.cons .k2 (.cons .k3 (.cons .k3 (.cons .k3 .nil)))) .nil (fun _ _ => rfl) (fun _ _ => rfl) rfl) (.inr fun _ _ _ h => (h.imp (Ls.of (.cons .k6 (.cons .k0 (.cons .k5 (.cons .k0 (.cons .k0 (.cons .k0 .nil)))))))).ro (Rs.cons Mm.m0 (Rs.cons Mm.m1 Rs.nil))) fun u77 _ => ?_
              refine .frz .k4 ?_
              refine .dgo rfl (.n rfl) (G.call call21 (.cons .t0 (.cons .t1 (.cons .t2 (.cons .t1 .nil)))) (S_history_Balance u77 r75 r60.Side (IntKind.i64.wrap (Int.tdiv s65 2)) (Int.tmod s65 2) r78 hr79) .nil (.cons Mm.m0 .nil) (fun _ _ => rfl) (fun _ _ => rfl) rfl) (.inr fun _ _ _ h => (h.imp (Ls.of (.cons .k5 (.cons .k0 (.cons .k4 (.cons .k0 (.cons .k0 (.cons .k0 .nil)))))))).ro (Rs.cons Mm.m1 (Rs.cons Mm.m2 Rs.nil))) fun _ _ => ?_
              refine .dpu rfl (.n rfl) (P.mov .t0) rfl rfl ?_
              refine .dpu rfl (.n rfl) (P.ext (v := Ag (api_Wide.cs r78.1)) .g0 rfl) rfl rfl ?_
              refine .dpu rfl (.n rfl) (P.ext (v := Bo r78.2) .t1 rfl) rfl rfl ?_
              refine .dgo rfl (.n rfl) (G.str .t1 .g1 .k4 (.mk (cs' := (api_Wide.cs r78.1)) sizeOf30 rfl rfl rfl rfl)) (.inr fun _ _ _ h => (h.imp (Ls.of (.cons .k5 (.cons .k1 (.cons .k4 (.cons .k1 (.cons .k1 (.cons .k1 .nil)))))))).ro (Rs.cons Mm.m1 (Rs.cons Mm.m2 Rs.nil))) fun _ _ => ?_
              refine .dgo rfl (.n rfl) (OpV.g (OpP.toV (P.asg .t0)) rfl) (.inr fun _ _ _ h => (h.imp (Ls.of (.cons .k5 (.cons .k1 (.cons .k4 (.cons .k1 (.cons .k1 (.cons .k1 .nil)))))))).ro (Rs.cons Mm.m1 (Rs.cons Mm.m2 Rs.nil))) fun _ _ => ?_
              refine .dnil ?_
              exact .dst ⟨u77, b80⟩ trivial (.cons Mm.m0 (.cons Mm.m1 (.cons Mm.m2 (.cons Mm.m3 (.cons Mm.m4 .nil))))) (Ls.of (.cons .k0 (.cons .k0 (.cons .k0 (.cons .k0 (.cons .k0 (.cons .k0 (.cons .k0 .nil)))))))) (.cons Mm.m0 (.cons Mm.m1 (.cons Mm.m2 .nil)))
          · obtain ⟨u77, b80⟩ := x_
            refine .then ?_
            obtain ⟨y81, hj83, hc69⟩ := bnd_eq hc69
            refine .cutx (γ := Unit) (E1 := fun z82 => [(83, Bo y81), (12, N s65), (11, pt b63 0), (9, pt b4 0)]) (L1 := fun z82 => [blk b63 45 (escrow_State.cs r60 u62), blk b4 62 (chain_Chain.cs s8.2 z9.1 z9.2.1 z9.2.2), lst 76 3 u62 (r60.Locks.map escrow_Lock.cs), lst 76 3 z9.1 (s8.2.s.Locks.map escrow_Lock.cs), lst 36 25 z9.2.1 (s8.2.pool.map api_Tx.cs), lst 70 27 z9.2.2 (s8.2.events.map api_Event.cs)]) (R1 := fun z82 => [rows 25 v02 (a2.map api_Tx.cs), rows 1 v03 (a3.map (fun x => [N x]))]) ?_ (fun z82 => ?_)
            · clear hc69
              refine .draw 13 (.on 0 .pu (.on 1 .pu (.on 2 .pu (.on 4 .pu (.on 6 .pu (.on 7 .pu (.on 8 .pu (.on 9 .pu (.on 3 .ld (.on 5 .ld (.on 10 .go (.on 11 .pu (.on 12 .pu .nl))))))))))))) follows_mixed (.thn (.inb (.thn (.thn (.inb (.thn .body)))))) (by kernel_rfl) ?_
              refine .dpu rfl (.n rfl) (P.mov .t0) rfl rfl ?_
              refine .dpu rfl (.n rfl) (P.not .t0) rfl rfl ?_
              refine .dpu rfl (.n rfl) (P.mov .t0) rfl rfl ?_
              refine .split .k0 (fun c84 => ?_) (fun c84 => ?_)
              · rw [if_pos c84] at hj83
                refine .dsk rfl (.g rfl rfl .g0 rfl) rfl rfl ?_
                refine .dsk rfl (.g rfl rfl .g0 rfl) rfl rfl ?_
                refine .dsk rfl (.g rfl rfl .g0 rfl) rfl rfl ?_
                refine .dsk rfl (.g rfl rfl .g0 rfl) rfl rfl ?_
                refine .dsk rfl (.g rfl rfl .g0 rfl) rfl rfl ?_
                refine .dskl rfl (.g rfl rfl .g0 rfl) (fun _ h => h) rfl rfl ?_
                refine .dskl rfl (.g rfl rfl .g0 rfl) (fun _ h => h) rfl rfl ?_
                refine .dskg rfl (.g rfl rfl .g0 rfl) (.inr fun _ h => h) rfl rfl ?_
                refine .dsk rfl (.g rfl rfl .g0 rfl) rfl rfl ?_
                refine .dpu rfl (.n rfl) (P.pickT .t0 .k) rfl rfl ?_
                refine .dnil ?_
                cases hj83
                exact .stj () (.cons Mm.m0 (.cons Mm.m2 (.cons Mm.m3 (.cons Mm.m4 .nil)))) (.of (.cons .k5 (.cons .k1 (.cons .k4 (.cons .k1 (.cons .k1 (.cons .k1 .nil))))))) (.cons Mm.m1 (.cons Mm.m2 .nil))
              · rw [if_neg (ne_true_of_eq_false c84)] at hj83
                refine .dpu rfl (.g rfl rfl .g0 rfl) (P.fa .g3 fa_45_2 rfl) rfl rfl ?_
                refine .dpu rfl (.g rfl rfl .g1 rfl) (P.mov .g3) rfl rfl ?_
                refine .dpu rfl (.g rfl rfl .g2 rfl) (P.bin .t0 .k (.quo (by decide))) rfl rfl ?_
                refine .dpu rfl (.g rfl rfl .g2 rfl) (P.mov .g4) rfl rfl ?_
                refine .dpu rfl (.g rfl rfl .g3 rfl) (P.bin .t0 .k (.rem (by decide))) rfl rfl ?_
                refine .dld rfl (.g rfl rfl .g3 rfl) (V.ld (v := Ag (api_Wide.cs r78.1)) .t4 .k0 (.agg isAgg30 sizeOf30 rfl rfl)) (fun _ h => h) rfl rfl ?_
                refine .dld rfl (.g rfl rfl .g4 rfl) (V.ld (v := Ag (purse_Book.cs r60.Purse)) .t3 .k5 (.agg isAgg41 sizeOf41 rfl rfl)) (fun _ h => h) rfl rfl ?_
                obtain ⟨r85, hr86, hj83⟩ := bnd_eq hj83
                refine .dgo rfl (.g rfl rfl .g4 rfl) (G.call call22 (.cons .t0 (.cons .t2 (.cons .t1 .nil))) (S_purse_Book_Of r60.Purse (IntKind.i64.wrap (Int.tdiv s65 2)) (Int.tmod s65 2) r85 hr86) .nil .nil (fun _ _ => rfl) (fun _ _ => rfl) rfl) (.inr fun _ _ _ h => h) fun _ _ => ?_
                refine .dpu rfl (.g rfl rfl .g2 rfl) (P.bin .t1 .t0 (eq_30_neq _ _)) rfl rfl ?_
                refine .dpu rfl (.n rfl) (P.pickF .t1 .t0) rfl rfl ?_
                refine .dnil ?_
                cases hj83
                exact .stj () (.cons Mm.m0 (.cons Mm.m1 (.cons Mm.m2 (.cons Mm.m3 .nil)))) (.of (.cons .k5 (.cons .k1 (.cons .k4 (.cons .k1 (.cons .k1 (.cons .k1 .nil))))))) (.cons Mm.m1 (.cons Mm.m2 .nil))
            · clear hj83
              refine .cond .t0 (fun c87 => ?_) (fun c87 => ?_)
              · rw [if_pos c87] at hc69
                refine .seq ?_
                refine .reg rfl ?_
                refine .opp (P.asg .k) rfl ?_
                refine .nil ?_
                refine .then ?_
                refine .ret ?_
                refine .inr ?_
                refine .thr ?_
                obtain ⟨x88, hx89, rfl⟩ := map_rt hc69
                obtain rfl := hn70
                obtain rfl := rt_on h
                refine .thr ?_
                refine .inr ?_
                refine .thr ?_
                cases hx89
                exact .finw () (.r1 rfl (.tmp .g0)) trivial (Ls.of .nil) .nil
              · rw [if_neg (ne_true_of_eq_false c87)] at hc69
                refine .skip ?_
                refine .inn ?_
                refine .then ?_
                refine .reg rfl ?_
                refine .opp (P.mov .g0) rfl ?_
                refine .opp (P.bin .t0 .k .add) rfl ?_
                refine .drop .k1 ?_
                refine .opp (P.asg .t0) rfl ?_
                refine .nil ?_
                cases hc69
                obtain ⟨m90, hm91, hn70⟩ := hn70
                exact .rdW (IntKind.i64.wrap (s65 + 1)) () hm91 hn70 (.cons Mm.m0 (.cons Mm.m1 (.cons Mm.m2 .nil))) (.of (.cons .k0 (.cons .k0 (.cons .k0 (.cons .k0 (.cons .k0 (.cons .k0 .nil))))))) (.cons Mm.m0 (.cons Mm.m1 .nil))
        · rw [if_neg (ne_true_of_eq_false c74)] at hc69
          refine .exit ?_
          refine .thx ?_
          cases hc69
          refine .told (γ := Unit) h hn70 (fun (s65 : Int) _ => [(12, N s65), (11, pt b63 0), (9, pt b4 0)]) (fun (s65 : Int) _ => [blk b63 45 (escrow_State.cs r60 u62), blk b4 62 (chain_Chain.cs s8.2 z9.1 z9.2.1 z9.2.2), lst 76 3 u62 (r60.Locks.map escrow_Lock.cs), lst 76 3 z9.1 (s8.2.s.Locks.map escrow_Lock.cs), lst 36 25 z9.2.1 (s8.2.pool.map api_Tx.cs), lst 70 27 z9.2.2 (s8.2.events.map api_Event.cs)]) (fun (s65 : Int) _ => [rows 25 v02 (a2.map api_Tx.cs), rows 1 v03 (a3.map (fun x => [N x]))]) () (.cons Mm.m0 (.cons Mm.m1 (.cons Mm.m2 .nil))) (.of (.cons .k0 (.cons .k0 (.cons .k0 (.cons .k0 (.cons .k0 (.cons .k0 .nil))))))) (.cons Mm.m0 (.cons Mm.m1 .nil)) (fun s65 _ h' => ?_)
          replace h := h'
          refine .thx ?_
          refine .inb ?_
          refine .then ?_
          refine .seq ?_
          refine .reg rfl ?_
          refine .opp (P.asg .k) rfl ?_
          refine .nil ?_
          refine .then ?_
          refine .ret ?_
          cases h
          exact .finw () (.r1 rfl (.tmp .g0)) trivial (Ls.of .nil) .nil
attribute [irreducible] narrowslaw31_HistoryPurses
end Go.Sl
