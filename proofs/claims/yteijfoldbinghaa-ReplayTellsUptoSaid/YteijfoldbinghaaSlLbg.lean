/- Walked code of the program, its pure functions and their contracts. -/
import Derived.Test.YteijfoldbinghaaSlLbf
set_option linter.unusedVariables false
set_option linter.unusedSimpArgs false
namespace Go.Sl
open Go.Proofs Go.Proofs.Try

noncomputable def narrowslaw37_ReplayTells (a0 : List api_Event) (a1 : Int) (a2 : Int) : Option (Bool) :=
  Option.bind (narrowslaw37_alive) fun r1 => if (!r1) = true then (some false) else (Option.bind (if (decide ((a0.length : Int) > 30)) = true then (grd (okS a0.length none (some 30) none) <| some ((slc a0 0 (30 : Int).toNat))) else (some a0)) fun (y4 : (List api_Event)) => Option.bind (loopW (fun (s15 : Int × Int × escrow_State) => thn (if (decide (s15.1 < (y4.length : Int))) = true then (decide (s15.2.1 = s15.1)) else false) fun (y24 : Bool) => if y24 = true then (Option.bind (Option.bind (Option.bind (at_ y4 s15.1) fun (x40 : api_Event) => if (decide (x40.Time > s15.2.2.Time)) = true then (Option.bind (at_ y4 s15.1) fun (x48 : api_Event) => Option.bind (escrow_Rise s15.2.2 (IntKind.i64.wrap (x48.Time - s15.2.2.Time))) fun r52 => some r52) else (some s15.2.2)) fun (y34 : escrow_State) => Option.bind (at_ y4 s15.1) fun (x59 : api_Event) => Option.bind (escrow_Apply y34 x59.Tx) fun r63 => Option.bind (if r63.2.2 = true then (Option.bind (at_ y4 s15.1) fun (x75 : api_Event) => some (decide (r63.2.1 = x75.Code))) else (some false)) fun (y68 : Bool) => if y68 = true then (some ((IntKind.i64.wrap (s15.2.1 + 1), r63.1))) else (some (s15.2.1, s15.2.2))) fun (y29 : Int × escrow_State) => some (.nx ((IntKind.i64.wrap (s15.1 + 1), y29.1, y29.2)))) else (some (.br (s15.1, s15.2.1, s15.2.2)))) ((0, 0, (escrow_Genesis a1 a2)))) fun o17 => Lo.on o17 fun (s15 : Int × Int × escrow_State) => Option.bind (replay_State y4 a1 a2) fun r83 => Option.bind (Option.bind (narrowslaw37_same r83.1 s15.2.2) fun r91 => if r91 = true then (some (decide (r83.2 = s15.2.1))) else (some false)) fun (y88 : Bool) => some y88)
set_option maxRecDepth 20000 in
set_option maxHeartbeats 1000000 in
theorem S_narrowslaw37_ReplayTells (v00 : Value) (a0 : List api_Event) (a1 : Int) (a2 : Int) (r : Bool) (h : narrowslaw37_ReplayTells a0 a1 a2 = some r) :
    SpecF Try.prog 13 [v00, N a1, N a2] [] [rows 27 v00 (a0.map api_Event.cs)] (fun z : Unit => True) (fun z => Bo r) (fun z M =>  M) (fun z M =>  M) := by
  refine .of func13 rfl ntmps13 rfl fun w0 D0 G0 => ?_
  unfold narrowslaw37_ReplayTells at h
  refine .seq ?_
  refine .reg rfl ?_
  refine .op0 (OpP.toV (P.asg .k)) rfl ?_
  refine .nil ?_
  refine .then ?_
  refine .seq ?_
  refine .seq ?_
  refine .reg rfl ?_
  obtain ⟨r1, hr2, h⟩ := bnd_eq h
  refine .opg (G.call call53 .nil (S_narrowslaw37_alive  r1 hr2) .nil .nil (fun _ _ => rfl) (fun _ _ => rfl) rfl) rfl fun _ _ => ?_
  refine .opp (P.not .t0) rfl ?_
  refine .nil ?_
  refine .then ?_
  refine .cond .t0 (fun c3 => ?_) (fun c3 => ?_)
  · rw [if_pos c3] at h
    refine .seq ?_
    refine .reg rfl ?_
    refine .opp (P.asg .k) rfl ?_
    refine .nil ?_
    refine .then ?_
    refine .ret ?_
    refine .thr ?_
    cases h
    exact .finw () (.r1 rfl (.tmp .g0)) trivial (Ls.of .nil) .nil
  · rw [if_neg (ne_true_of_eq_false c3)] at h
    refine .skip ?_
    refine .then ?_
    obtain ⟨y4, hj6, h⟩ := bnd_eq h
    refine .cutx (γ := Value) (E1 := fun z5 => [(0, z5), (1, N a1), (2, N a2)]) (L1 := fun z5 => []) (R1 := fun z5 => [rows 27 z5 (y4.map api_Event.cs), rows 27 v00 (a0.map api_Event.cs)]) ?_ (fun z5 => ?_)
    · clear h
      refine .seq ?_
      refine .reg rfl ?_
      refine .opp (P.mov .g0) rfl ?_
      refine .op (V.lnr (n := a0.length) .t0 Mm.m0 map_len runUnderlying22) rfl ?_
      refine .opp (P.bin .t0 .k .gtr) rfl ?_
      refine .nil ?_
      refine .then ?_
      refine .cond .t0 (fun c7 => ?_) (fun c7 => ?_)
      · rw [if_pos c7] at hj6
        refine .reg rfl ?_
        refine .opp (P.mov .g0) rfl ?_
        obtain ⟨hb8, hj6⟩ := grd_eq hj6
        refine .capq Mm.m0 fun hc10 => ?_
        refine .opg (G.slr (li := none) (hj := (some 30)) (mk := none) .t0 .none (.some .k) .none Mm.m0 hc10 runUnderlying22 sizeOf38 (by simpa using hb8) rfl) rfl fun u9 hu11 => ?_
        refine .rhead (q := rows 27 u9 ((slc a0 0 (30 : Int).toNat).map api_Event.cs)) (fun _ hh => by simpa [slc_map] using hh) ?_
        refine .drop .k1 ?_
        refine .opp (P.asg .t0) rfl ?_
        refine .nil ?_
        cases hj6
        exact .stj u9 (.cons Mm.m0 (.cons Mm.m1 (.cons Mm.m2 .nil))) (.of .nil) (.cons Mm.m0 (.cons Mm.m1 .nil))
      · rw [if_neg (ne_true_of_eq_false c7)] at hj6
        refine .skip ?_
        cases hj6
        exact .stj v00 (.cons Mm.m0 (.cons Mm.m1 (.cons Mm.m2 .nil))) (.of .nil) (.cons Mm.m0 (.cons Mm.m0 .nil))
    · clear hj6
      refine .seq ?_
      refine .reg rfl ?_
      refine .opp (P.mov .g1) rfl ?_
      refine .opp (P.mov .g3) rfl ?_
      refine .opg (G.call call54 (.cons .t1 (.cons .t0 .nil)) (S_escrow_Genesis a1 a2 _ rfl) .nil .nil (fun _ _ => rfl) (fun _ _ => rfl) rfl) rfl fun u12 _ => ?_
      refine .opx (X.alc (cs := (escrow_State.cs ⟨0, 0, ⟨⟨⟨0, 0, 0, 0⟩, ⟨0, 0, 0, 0⟩⟩, ⟨⟨0, 0, 0, 0⟩, ⟨0, 0, 0, 0⟩⟩, ⟨⟨0, 0, 0, 0⟩, ⟨0, 0, 0, 0⟩⟩, ⟨⟨0, 0, 0, 0⟩, ⟨0, 0, 0, 0⟩⟩, ⟨⟨0, 0, 0, 0⟩, ⟨0, 0, 0, 0⟩⟩, ⟨⟨0, 0, 0, 0⟩, ⟨0, 0, 0, 0⟩⟩, ⟨⟨0, 0, 0, 0⟩, ⟨0, 0, 0, 0⟩⟩, ⟨⟨0, 0, 0, 0⟩, ⟨0, 0, 0, 0⟩⟩⟩, ⟨⟨⟨0, 0, 0, 0⟩, ⟨0, 0, 0, 0⟩⟩, ⟨⟨0, 0, 0, 0⟩, ⟨0, 0, 0, 0⟩⟩, ⟨⟨0, 0, 0, 0⟩, ⟨0, 0, 0, 0⟩⟩, ⟨⟨0, 0, 0, 0⟩, ⟨0, 0, 0, 0⟩⟩, ⟨⟨0, 0, 0, 0⟩, ⟨0, 0, 0, 0⟩⟩, ⟨⟨0, 0, 0, 0⟩, ⟨0, 0, 0, 0⟩⟩, ⟨⟨0, 0, 0, 0⟩, ⟨0, 0, 0, 0⟩⟩, ⟨⟨0, 0, 0, 0⟩, ⟨0, 0, 0, 0⟩⟩⟩, ⟨0, 0, 0, 0, 0, 0, 0, 0⟩, ⟨⟨0, 0, 0, 0⟩, ⟨0, 0, 0, 0⟩⟩, ⟨0, 0, 0, 0⟩, []⟩ nilSl)) zeroValue64 rfl) rfl fun b13 => ?_
      refine .onel .k1 fun ho14 => ?_
      refine .opg (G.str .t1 .g0 .k0 (.mk (cs' := (escrow_State.cs (escrow_Genesis a1 a2) u12)) sizeOf64 rfl (onez_64 _ ho14) rfl rfl)) rfl fun _ _ => ?_
      refine .nil ?_
      refine .then ?_
      refine .seq ?_
      refine .reg rfl ?_
      refine .opp (P.asg .k) rfl ?_
      refine .nil ?_
      refine .then ?_
      refine .seq ?_
      refine .seq ?_
      refine .reg rfl ?_
      refine .opp (P.asg .k) rfl ?_
      refine .nil ?_
      refine .then ?_
      refine .block ?_
      refine .frz .k1 ?_
      obtain ⟨o17, ho18, h⟩ := bnd_eq h
      refine .loopW (γ := Value) (fun (s15 : Int × Int × escrow_State) z16 => [(9, N s15.1), (8, N s15.2.1), (7, pt b13 0), (0, z5), (1, N a1), (2, N a2)]) (fun (s15 : Int × Int × escrow_State) z16 => [blk b13 64 (escrow_State.cs s15.2.2 z16)]) (fun (s15 : Int × Int × escrow_State) z16 => [rows 27 z5 (y4.map api_Event.cs), rows 3 z16 (s15.2.2.Locks.map escrow_Lock.cs), rows 27 v00 (a0.map api_Event.cs)]) u12 ho18 (.cons Mm.m0 (.cons Mm.m1 (.cons Mm.m2 (.cons Mm.m3 (.cons Mm.m4 (.cons Mm.m5 .nil)))))) (.of (.cons .k0 .nil)) (.cons Mm.m1 (.cons Mm.m0 (.cons Mm.m2 .nil))) (fun n23 s15 z16 hr21 => ?_)
      obtain ⟨ct22, hc19, hn20⟩ := loopK_at hr21
      refine .seq ?_
      obtain ⟨y24, hj26, hc19⟩ := thn_eq hc19
      refine .cutx (γ := Unit) (E1 := fun z25 => [(34, Bo y24), (9, N s15.1), (8, N s15.2.1), (7, pt b13 0), (0, z5), (1, N a1), (2, N a2)]) (L1 := fun z25 => [blk b13 64 (escrow_State.cs s15.2.2 z16)]) (R1 := fun z25 => [rows 27 z5 (y4.map api_Event.cs), rows 3 z16 (s15.2.2.Locks.map escrow_Lock.cs), rows 27 v00 (a0.map api_Event.cs)]) ?_ (fun z25 => ?_)
      · clear hc19
        refine .reg rfl ?_
        refine .opp (P.mov .g0) rfl ?_
        refine .opp (P.mov .g4) rfl ?_
        refine .op (V.lnr (n := y4.length) .t0 Mm.m0 map_len runUnderlying22) rfl ?_
        refine .opp (P.bin .t1 .t0 .lss) rfl ?_
        refine .opp (P.mov .t0) rfl ?_
        refine .split .k0 (fun c27 => ?_) (fun c27 => ?_)
        · rw [if_pos c27] at hj26
          refine .gyes rfl .g0 ?_
          refine .opp (P.mov .g2) rfl ?_
          refine .gyes rfl .g1 ?_
          refine .opp (P.mov .g2) rfl ?_
          refine .gyes rfl .g2 ?_
          refine .opp (P.bin .t1 .t0 .eql) rfl ?_
          refine .opp (P.pickT .t1 .t0) rfl ?_
          refine .nil ?_
          subst hj26
          exact .stj () (.cons Mm.m0 (.cons Mm.m1 (.cons Mm.m2 (.cons Mm.m3 (.cons Mm.m4 (.cons Mm.m5 (.cons Mm.m6 .nil))))))) (.of (.cons .k0 .nil)) (.cons Mm.m0 (.cons Mm.m1 (.cons Mm.m2 .nil)))
        · rw [if_neg (ne_true_of_eq_false c27)] at hj26
          refine .gno rfl .g0 rfl rfl ?_
          refine .gno rfl .g0 rfl rfl ?_
          refine .gno rfl .g0 rfl rfl ?_
          refine .opp (P.pickF .t0 .k) rfl ?_
          refine .nil ?_
          subst hj26
          exact .stj () (.cons Mm.m0 (.cons Mm.m1 (.cons Mm.m2 (.cons Mm.m3 (.cons Mm.m4 (.cons Mm.m5 (.cons Mm.m6 .nil))))))) (.of (.cons .k0 .nil)) (.cons Mm.m0 (.cons Mm.m1 (.cons Mm.m2 .nil)))
      · clear hj26
        refine .cond .t0 (fun c28 => ?_) (fun c28 => ?_)
        · rw [if_pos c28] at hc19
          refine .skip ?_
          refine .then ?_
          obtain ⟨y29, hj31, hc19⟩ := bnd_eq hc19
          refine .cutx (γ := Value) (E1 := fun z30 => [(8, N y29.1), (9, N s15.1), (7, pt b13 0), (0, z5), (1, N a1), (2, N a2)]) (L1 := fun z30 => [blk b13 64 (escrow_State.cs y29.2 z30)]) (R1 := fun z30 => [rows 27 z5 (y4.map api_Event.cs), rows 3 z30 (y29.2.Locks.map escrow_Lock.cs), rows 27 v00 (a0.map api_Event.cs)]) ?_ (fun z30 => ?_)
          · clear hc19
            refine .block ?_
            refine .seq ?_
            refine .reg rfl ?_
            refine .op (V.ld (v := Ag (escrow_State.cs s15.2.2 z16)) .g2 .k0 (.agg isAgg64 sizeOf64 rfl rfl)) rfl ?_
            refine .opx (X.alc (cs := (escrow_State.cs ⟨0, 0, ⟨⟨⟨0, 0, 0, 0⟩, ⟨0, 0, 0, 0⟩⟩, ⟨⟨0, 0, 0, 0⟩, ⟨0, 0, 0, 0⟩⟩, ⟨⟨0, 0, 0, 0⟩, ⟨0, 0, 0, 0⟩⟩, ⟨⟨0, 0, 0, 0⟩, ⟨0, 0, 0, 0⟩⟩, ⟨⟨0, 0, 0, 0⟩, ⟨0, 0, 0, 0⟩⟩, ⟨⟨0, 0, 0, 0⟩, ⟨0, 0, 0, 0⟩⟩, ⟨⟨0, 0, 0, 0⟩, ⟨0, 0, 0, 0⟩⟩, ⟨⟨0, 0, 0, 0⟩, ⟨0, 0, 0, 0⟩⟩⟩, ⟨⟨⟨0, 0, 0, 0⟩, ⟨0, 0, 0, 0⟩⟩, ⟨⟨0, 0, 0, 0⟩, ⟨0, 0, 0, 0⟩⟩, ⟨⟨0, 0, 0, 0⟩, ⟨0, 0, 0, 0⟩⟩, ⟨⟨0, 0, 0, 0⟩, ⟨0, 0, 0, 0⟩⟩, ⟨⟨0, 0, 0, 0⟩, ⟨0, 0, 0, 0⟩⟩, ⟨⟨0, 0, 0, 0⟩, ⟨0, 0, 0, 0⟩⟩, ⟨⟨0, 0, 0, 0⟩, ⟨0, 0, 0, 0⟩⟩, ⟨⟨0, 0, 0, 0⟩, ⟨0, 0, 0, 0⟩⟩⟩, ⟨0, 0, 0, 0, 0, 0, 0, 0⟩, ⟨⟨0, 0, 0, 0⟩, ⟨0, 0, 0, 0⟩⟩, ⟨0, 0, 0, 0⟩, []⟩ nilSl)) zeroValue64 rfl) rfl fun b32 => ?_
            refine .oner Mm.m1 fun ho33 => ?_
            refine .opg (G.str .t1 .g0 .k0 (.mk (cs' := (escrow_State.cs s15.2.2 z16)) sizeOf64 rfl (onez_64 _ ho33) rfl rfl)) rfl fun _ _ => ?_
            refine .nil ?_
            refine .then ?_
            obtain ⟨y34, hj36, hj31⟩ := bnd_eq hj31
            refine .cutx (γ := Value) (E1 := fun z35 => [(10, pt b32 0), (9, N s15.1), (8, N s15.2.1), (7, pt b13 0), (0, z5), (1, N a1), (2, N a2)]) (L1 := fun z35 => [blk b32 64 (escrow_State.cs y34 z35), blk b13 64 (escrow_State.cs s15.2.2 z16)]) (R1 := fun z35 => [rows 27 z5 (y4.map api_Event.cs), rows 3 z35 (y34.Locks.map escrow_Lock.cs), rows 3 z16 (s15.2.2.Locks.map escrow_Lock.cs), rows 27 v00 (a0.map api_Event.cs)]) ?_ (fun z35 => ?_)
            · clear hj31
              refine .seq ?_
              refine .draw 8 (.on 0 .pu (.on 1 .pu (.on 2 .pu (.on 3 .pu (.on 5 .pu (.on 4 .ld (.on 6 .ld (.on 7 .pu .nl)))))))) follows_mixed (.thn (.thn (.inb (.thn (.thn (.inb (.thn .body))))))) (by kernel_rfl) ?_
              refine .dpu rfl (.n rfl) (P.mov .g4) rfl rfl ?_
              refine .dpu rfl (.n rfl) (P.mov .g2) rfl rfl ?_
              obtain ⟨x40, hx41, hj36⟩ := bnd_eq hj36
              obtain ⟨i42, hi43, hx41⟩ := at_eq hx41
              have hi43_ : (s15.1).toNat = i42 := by rw [hi43]; rfl
              refine .ixq Mm.m0 (map_get hx41) fun p37 q38 hq39 => ?_
              refine .dpu rfl (.n rfl) (P.ixi (i := i42) .t0 hi43 .t0 hq39 runUnderlying22 sizeOf38) rfl rfl ?_
              refine .dpu rfl (.n rfl) (P.fa (off' := q38) .t0 fa_38_0 rfl) rfl rfl ?_
              refine .dpu rfl (.n rfl) (P.fa .g1 fa_64_1 rfl) rfl rfl ?_
              refine .dld rfl (.n rfl) (V.ldx0 (u := N x40.Time) .t1 hq39 Mm.m0 (map_get hx41) (.one isAgg3 rfl)) (fun _ h => h) rfl rfl ?_
              refine .dld rfl (.n rfl) (V.ld (v := N s15.2.2.Time) .t1 .k0 (.one isAgg3 rfl)) (fun _ h => h) rfl rfl ?_
              refine .dpu rfl (.n rfl) (P.bin .t1 .t0 .gtr) rfl rfl ?_
              refine .dnil ?_
              refine .then ?_
              refine .cond .t0 (fun c44 => ?_) (fun c44 => ?_)
              · rw [if_pos c44] at hj36
                obtain ⟨x48, hx49, hj36⟩ := bnd_eq hj36
                obtain ⟨i50, hi51, hx49⟩ := at_eq hx49
                have hi51_ : (s15.1).toNat = i50 := by rw [hi51]; rfl
                obtain ⟨r52, hr53, hj36⟩ := bnd_eq hj36
                refine .dcut (γ := Nat × Nat × Value) (φ := fun _ => True) (E1 := fun x_ => [(10, pt b32 0), (9, N s15.1), (8, N s15.2.1), (7, pt b13 0), (0, z5), (1, N a1), (2, N a2)]) (L1 := fun x_ => [blk b32 64 (escrow_State.cs r52 x_.2.2), lst 150 3 x_.2.2 (r52.Locks.map escrow_Lock.cs), blk b13 64 (escrow_State.cs s15.2.2 z16)]) (R1 := fun x_ => [rows 27 z5 (y4.map api_Event.cs), rows 3 z16 (s15.2.2.Locks.map escrow_Lock.cs), rows 27 v00 (a0.map api_Event.cs)]) ?_ (fun x_ _ => ?_)
                · refine .draw 9 (.on 1 .pu (.on 2 .pu (.on 3 .pu (.on 4 .pu (.on 6 .pu (.on 0 .ld (.fk 5 7 (.on 7 .go (.on 8 .pu (.on 9 .go (.on 10 .go .nl)))) (.on 5 .go (.on 8 .pu (.on 9 .go (.on 10 .go .nl))))))))))) follows_mixed (.thn (.thn (.inb (.thn (.thn (.inb (.thn .body))))))) (by kernel_rfl) ?_
                  refine .dpu rfl (.n rfl) (P.mov .g4) rfl rfl ?_
                  refine .dpu rfl (.n rfl) (P.mov .g2) rfl rfl ?_
                  refine .ixq Mm.m0 (map_get hx49) fun p45 q46 hq47 => ?_
                  refine .dpu rfl (.n rfl) (P.ixi (i := i50) .t0 hi51 .t0 hq47 runUnderlying22 sizeOf38) rfl rfl ?_
                  refine .dpu rfl (.n rfl) (P.fa (off' := q46) .t0 fa_38_0 rfl) rfl rfl ?_
                  refine .dpu rfl (.n rfl) (P.fa .g1 fa_64_1 rfl) rfl rfl ?_
                  refine .dld rfl (.n rfl) (V.ld (v := Ag (escrow_State.cs s15.2.2 z16)) .g2 .k0 (.agg isAgg64 sizeOf64 rfl rfl)) (fun _ h => h) rfl rfl ?_
                  refine .dfk ?_ ?_
                  · refine .dgo rfl (.n rfl) (OpV.g (V.ldx0 (u := N x48.Time) .t2 hq47 Mm.m0 (map_get hx49) (.one isAgg3 rfl)) rfl) (.inr fun _ _ _ h => h) fun _ _ => ?_
                    refine .dgo rfl (.n rfl) (OpV.g (V.ld (v := N s15.2.2.Time) .t2 .k0 (.one isAgg3 rfl)) rfl) (.inr fun _ _ _ h => h) fun _ _ => ?_
                    refine .dpu rfl (.n rfl) (P.bin .t1 .t0 .sub) rfl rfl ?_
                    refine .dgo rfl (.n rfl) (G.call call55 (.cons .t1 (.cons .t0 .nil)) (S_escrow_Rise s15.2.2 z16 (IntKind.i64.wrap (x48.Time - s15.2.2.Time)) r52 hr53) .nil (.cons Mm.m1 .nil) (fun _ _ => rfl) (fun _ _ => rfl) rfl) (.inl rfl) fun u54 _ => ?_
                    refine .onel .k0 fun ho55 => ?_
                    refine .dgo rfl (.n rfl) (G.str .t0 .g0 .k1 (.mk (cs' := (escrow_State.cs r52 u54)) sizeOf64 rfl (onez_64 _ ho55) rfl rfl)) (.inl rfl) fun _ _ => ?_
                    refine .dnil ?_
                    exact .dst ⟨p45, q46, u54⟩ trivial (.cons Mm.m0 (.cons Mm.m1 (.cons Mm.m2 (.cons Mm.m3 (.cons Mm.m4 (.cons Mm.m5 (.cons Mm.m6 .nil))))))) (Ls.of (.cons .k0 (.cons .k0 (.cons .k0 .nil)))) (.cons Mm.m0 (.cons Mm.m1 (.cons Mm.m2 .nil)))
                  · refine .dgo rfl (.n rfl) (OpV.g (V.ld (v := N s15.2.2.Time) .t1 .k0 (.one isAgg3 rfl)) rfl) (.inr fun _ _ _ h => h) fun _ _ => ?_
                    refine .dgo rfl (.n rfl) (OpV.g (V.ldx0 (u := N x48.Time) .t2 hq47 Mm.m0 (map_get hx49) (.one isAgg3 rfl)) rfl) (.inr fun _ _ _ h => h) fun _ _ => ?_
                    refine .dpu rfl (.n rfl) (P.bin .t0 .t0 .sub) rfl rfl ?_
                    refine .dgo rfl (.n rfl) (G.call call55 (.cons .t1 (.cons .t0 .nil)) (S_escrow_Rise s15.2.2 z16 (IntKind.i64.wrap (x48.Time - s15.2.2.Time)) r52 hr53) .nil (.cons Mm.m1 .nil) (fun _ _ => rfl) (fun _ _ => rfl) rfl) (.inl rfl) fun u54 _ => ?_
                    refine .onel .k0 fun ho55 => ?_
                    refine .dgo rfl (.n rfl) (G.str .t0 .g0 .k1 (.mk (cs' := (escrow_State.cs r52 u54)) sizeOf64 rfl (onez_64 _ ho55) rfl rfl)) (.inl rfl) fun _ _ => ?_
                    refine .dnil ?_
                    exact .dst ⟨p45, q46, u54⟩ trivial (.cons Mm.m0 (.cons Mm.m1 (.cons Mm.m2 (.cons Mm.m3 (.cons Mm.m4 (.cons Mm.m5 (.cons Mm.m6 .nil))))))) (Ls.of (.cons .k0 (.cons .k0 (.cons .k0 .nil)))) (.cons Mm.m0 (.cons Mm.m1 (.cons Mm.m2 .nil)))
                · obtain ⟨p45, q46, u54⟩ := x_
                  cases hj36
                  refine .frz .k1 ?_
                  exact .stj u54 (.cons Mm.m0 (.cons Mm.m1 (.cons Mm.m2 (.cons Mm.m3 (.cons Mm.m4 (.cons Mm.m5 (.cons Mm.m6 .nil))))))) (.of (.cons .k0 (.cons .k0 .nil))) (.cons Mm.m1 (.cons Mm.m0 (.cons Mm.m2 (.cons Mm.m3 .nil))))
              · rw [if_neg (ne_true_of_eq_false c44)] at hj36
                refine .skip ?_
                cases hj36
                exact .stj z16 (.cons Mm.m0 (.cons Mm.m1 (.cons Mm.m2 (.cons Mm.m3 (.cons Mm.m4 (.cons Mm.m5 (.cons Mm.m6 .nil))))))) (.of (.cons .k0 (.cons .k0 .nil))) (.cons Mm.m0 (.cons Mm.m1 (.cons Mm.m1 (.cons Mm.m2 .nil))))
            · clear hj36
              refine .seq ?_
              obtain ⟨x59, hx60, hj31⟩ := bnd_eq hj31
              obtain ⟨i61, hi62, hx60⟩ := at_eq hx60
              have hi62_ : (s15.1).toNat = i61 := by rw [hi62]; rfl
              obtain ⟨r63, hr64, hj31⟩ := bnd_eq hj31
              refine .dcut (γ := Nat × Nat × Value × Nat) (φ := fun _ => True) (E1 := fun x_ => [(13, Bo r63.2.2), (12, N r63.2.1), (11, pt x_.2.2.2 0), (9, N s15.1), (8, N s15.2.1), (7, pt b13 0), (0, z5), (1, N a1), (2, N a2)]) (L1 := fun x_ => [blk x_.2.2.2 64 (escrow_State.cs r63.1 x_.2.2.1), lst 150 3 x_.2.2.1 (r63.1.Locks.map escrow_Lock.cs), blk b32 64 (escrow_State.cs y34 z35), blk b13 64 (escrow_State.cs s15.2.2 z16)]) (R1 := fun x_ => [rows 27 z5 (y4.map api_Event.cs), rows 3 z35 (y34.Locks.map escrow_Lock.cs), rows 3 z16 (s15.2.2.Locks.map escrow_Lock.cs), rows 27 v00 (a0.map api_Event.cs)]) ?_ (fun x_ _ => ?_)
              · refine .draw 15 (.on 1 .pu (.on 2 .pu (.on 3 .pu (.on 4 .pu (.on 0 .ld (.on 5 .ld (.fk 6 11 (.on 7 .pu (.on 8 .pu (.on 9 .pu (.on 10 .pu (.on 11 .go (.on 12 .go (.on 13 .go (.on 14 .go .nl)))))))) (.on 6 .go (.on 7 .pu (.on 8 .pu (.on 9 .pu (.on 10 .pu (.on 12 .go (.on 13 .go (.on 14 .go .nl))))))))))))))) follows_mixed (.thn (.thn (.inb (.thn (.thn (.inb (.thn .body))))))) (by kernel_rfl) ?_
                refine .dpu rfl (.n rfl) (P.mov .g4) rfl rfl ?_
                refine .dpu rfl (.n rfl) (P.mov .g2) rfl rfl ?_
                refine .ixq Mm.m0 (map_get hx60) fun p56 q57 hq58 => ?_
                refine .dpu rfl (.n rfl) (P.ixi (i := i61) .t0 hi62 .t0 hq58 runUnderlying22 sizeOf38) rfl rfl ?_
                refine .dpu rfl (.n rfl) (P.fa (off' := q57 + 2) .t0 fa_38_2 rfl) rfl rfl ?_
                refine .dld rfl (.n rfl) (V.ld (v := Ag (escrow_State.cs y34 z35)) .t1 .k0 (.agg isAgg64 sizeOf64 rfl rfl)) (fun _ h => h) rfl rfl ?_
                refine .dld rfl (.n rfl) (V.ldx (u := Ag (api_Tx.cs x59.Tx)) (off := q57) (k := 2) .t1 hq58 Mm.m0 (map_get hx60) (.agg isAgg36 sizeOf36 rfl rfl)) (fun _ h => h) rfl rfl ?_
                refine .dfk ?_ ?_
                · refine .dgo rfl (.n rfl) (G.call call56 (.cons .t1 (.cons .t0 .nil)) (S_escrow_Apply y34 z35 x59.Tx r63 hr64) .nil (.cons Mm.m1 .nil) (fun _ _ => rfl) (fun _ _ => rfl) rfl) (.inr fun _ _ _ h => (h.imp (Ls.of (.cons .k1 (.cons .k1 .nil)))).ro (Rs.cons Mm.m0 (Rs.cons Mm.m1 (Rs.cons Mm.m2 (Rs.cons Mm.m3 Rs.nil))))) fun u65 _ => ?_
                  refine .dpu rfl (.n rfl) (P.mov .t0) rfl rfl ?_
                  refine .dpu rfl (.n rfl) (P.ext (v := Ag (escrow_State.cs r63.1 u65)) .g0 rfl) rfl rfl ?_
                  refine .dpu rfl (.n rfl) (P.ext (v := N r63.2.1) .g1 rfl) rfl rfl ?_
                  refine .dpu rfl (.n rfl) (P.ext (v := Bo r63.2.2) .t2 rfl) rfl rfl ?_
                  refine .dgo rfl (.n rfl) (OpX.g (X.alc (cs := (escrow_State.cs ⟨0, 0, ⟨⟨⟨0, 0, 0, 0⟩, ⟨0, 0, 0, 0⟩⟩, ⟨⟨0, 0, 0, 0⟩, ⟨0, 0, 0, 0⟩⟩, ⟨⟨0, 0, 0, 0⟩, ⟨0, 0, 0, 0⟩⟩, ⟨⟨0, 0, 0, 0⟩, ⟨0, 0, 0, 0⟩⟩, ⟨⟨0, 0, 0, 0⟩, ⟨0, 0, 0, 0⟩⟩, ⟨⟨0, 0, 0, 0⟩, ⟨0, 0, 0, 0⟩⟩, ⟨⟨0, 0, 0, 0⟩, ⟨0, 0, 0, 0⟩⟩, ⟨⟨0, 0, 0, 0⟩, ⟨0, 0, 0, 0⟩⟩⟩, ⟨⟨⟨0, 0, 0, 0⟩, ⟨0, 0, 0, 0⟩⟩, ⟨⟨0, 0, 0, 0⟩, ⟨0, 0, 0, 0⟩⟩, ⟨⟨0, 0, 0, 0⟩, ⟨0, 0, 0, 0⟩⟩, ⟨⟨0, 0, 0, 0⟩, ⟨0, 0, 0, 0⟩⟩, ⟨⟨0, 0, 0, 0⟩, ⟨0, 0, 0, 0⟩⟩, ⟨⟨0, 0, 0, 0⟩, ⟨0, 0, 0, 0⟩⟩, ⟨⟨0, 0, 0, 0⟩, ⟨0, 0, 0, 0⟩⟩, ⟨⟨0, 0, 0, 0⟩, ⟨0, 0, 0, 0⟩⟩⟩, ⟨0, 0, 0, 0, 0, 0, 0, 0⟩, ⟨⟨0, 0, 0, 0⟩, ⟨0, 0, 0, 0⟩⟩, ⟨0, 0, 0, 0⟩, []⟩ nilSl)) zeroValue64 rfl) rfl) (.inr fun _ _ _ h => (h.imp (Ls.of (.cons .k2 (.cons .k2 .nil)))).ro (Rs.cons Mm.m0 (Rs.cons Mm.m1 (Rs.cons Mm.m2 (Rs.cons Mm.m3 Rs.nil))))) fun b66 _ => ?_
                  refine .onel .k1 fun ho67 => ?_
                  refine .dgo rfl (.n rfl) (G.str .t3 .g0 .k0 (.mk (cs' := (escrow_State.cs r63.1 u65)) sizeOf64 rfl (onez_64 _ ho67) rfl rfl)) (.inr fun _ _ _ h => (h.imp (Ls.of (.cons .k2 (.cons .k2 .nil)))).ro (Rs.cons Mm.m0 (Rs.cons Mm.m1 (Rs.cons Mm.m2 (Rs.cons Mm.m3 Rs.nil))))) fun _ _ => ?_
                  refine .dgo rfl (.n rfl) (OpV.g (OpP.toV (P.asg .t2)) rfl) (.inr fun _ _ _ h => (h.imp (Ls.of (.cons .k2 (.cons .k2 .nil)))).ro (Rs.cons Mm.m0 (Rs.cons Mm.m1 (Rs.cons Mm.m2 (Rs.cons Mm.m3 Rs.nil))))) fun _ _ => ?_
                  refine .dgo rfl (.n rfl) (OpV.g (OpP.toV (P.asg .t2)) rfl) (.inr fun _ _ _ h => (h.imp (Ls.of (.cons .k2 (.cons .k2 .nil)))).ro (Rs.cons Mm.m0 (Rs.cons Mm.m1 (Rs.cons Mm.m2 (Rs.cons Mm.m3 Rs.nil))))) fun _ _ => ?_
                  refine .dnil ?_
                  exact .dst ⟨p56, q57, u65, b66⟩ trivial (.cons Mm.m0 (.cons Mm.m1 (.cons Mm.m2 (.cons Mm.m3 (.cons Mm.m4 (.cons Mm.m5 (.cons Mm.m6 (.cons Mm.m7 (.cons Mm.m8 .nil))))))))) (Ls.of (.cons .k0 (.cons .k0 (.cons .k0 (.cons .k0 .nil))))) (.cons Mm.m0 (.cons Mm.m1 (.cons Mm.m2 (.cons Mm.m3 .nil))))
                · refine .dgo rfl (.n rfl) (OpX.g (X.alc (cs := (escrow_State.cs ⟨0, 0, ⟨⟨⟨0, 0, 0, 0⟩, ⟨0, 0, 0, 0⟩⟩, ⟨⟨0, 0, 0, 0⟩, ⟨0, 0, 0, 0⟩⟩, ⟨⟨0, 0, 0, 0⟩, ⟨0, 0, 0, 0⟩⟩, ⟨⟨0, 0, 0, 0⟩, ⟨0, 0, 0, 0⟩⟩, ⟨⟨0, 0, 0, 0⟩, ⟨0, 0, 0, 0⟩⟩, ⟨⟨0, 0, 0, 0⟩, ⟨0, 0, 0, 0⟩⟩, ⟨⟨0, 0, 0, 0⟩, ⟨0, 0, 0, 0⟩⟩, ⟨⟨0, 0, 0, 0⟩, ⟨0, 0, 0, 0⟩⟩⟩, ⟨⟨⟨0, 0, 0, 0⟩, ⟨0, 0, 0, 0⟩⟩, ⟨⟨0, 0, 0, 0⟩, ⟨0, 0, 0, 0⟩⟩, ⟨⟨0, 0, 0, 0⟩, ⟨0, 0, 0, 0⟩⟩, ⟨⟨0, 0, 0, 0⟩, ⟨0, 0, 0, 0⟩⟩, ⟨⟨0, 0, 0, 0⟩, ⟨0, 0, 0, 0⟩⟩, ⟨⟨0, 0, 0, 0⟩, ⟨0, 0, 0, 0⟩⟩, ⟨⟨0, 0, 0, 0⟩, ⟨0, 0, 0, 0⟩⟩, ⟨⟨0, 0, 0, 0⟩, ⟨0, 0, 0, 0⟩⟩⟩, ⟨0, 0, 0, 0, 0, 0, 0, 0⟩, ⟨⟨0, 0, 0, 0⟩, ⟨0, 0, 0, 0⟩⟩, ⟨0, 0, 0, 0⟩, []⟩ nilSl)) zeroValue64 rfl) rfl) (.inr fun _ _ _ h => (h.imp (Ls.of (.cons .k1 (.cons .k1 .nil)))).ro (Rs.cons Mm.m0 (Rs.cons Mm.m1 (Rs.cons Mm.m2 (Rs.cons Mm.m3 Rs.nil))))) fun b66 _ => ?_
                  refine .dgo rfl (.n rfl) (G.call call56 (.cons .t2 (.cons .t1 .nil)) (S_escrow_Apply y34 z35 x59.Tx r63 hr64) .nil (.cons Mm.m1 .nil) (fun _ _ => rfl) (fun _ _ => rfl) rfl) (.inr fun _ _ _ h => (h.imp (Ls.of (.cons .k2 (.cons .k2 .nil)))).ro (Rs.cons Mm.m0 (Rs.cons Mm.m1 (Rs.cons Mm.m2 (Rs.cons Mm.m3 Rs.nil))))) fun u65 _ => ?_
                  refine .dpu rfl (.n rfl) (P.mov .t0) rfl rfl ?_
                  refine .dpu rfl (.n rfl) (P.ext (v := Ag (escrow_State.cs r63.1 u65)) .g0 rfl) rfl rfl ?_
                  refine .dpu rfl (.n rfl) (P.ext (v := N r63.2.1) .g1 rfl) rfl rfl ?_
                  refine .dpu rfl (.n rfl) (P.ext (v := Bo r63.2.2) .t2 rfl) rfl rfl ?_
                  refine .onel .k0 fun ho67 => ?_
                  refine .dgo rfl (.n rfl) (G.str .t2 .g2 .k1 (.mk (cs' := (escrow_State.cs r63.1 u65)) sizeOf64 rfl (onez_64 _ ho67) rfl rfl)) (.inr fun _ _ _ h => (h.imp (Ls.of (.cons .k2 (.cons .k2 .nil)))).ro (Rs.cons Mm.m0 (Rs.cons Mm.m1 (Rs.cons Mm.m2 (Rs.cons Mm.m3 Rs.nil))))) fun _ _ => ?_
                  refine .dgo rfl (.n rfl) (OpV.g (OpP.toV (P.asg .t1)) rfl) (.inr fun _ _ _ h => (h.imp (Ls.of (.cons .k2 (.cons .k2 .nil)))).ro (Rs.cons Mm.m0 (Rs.cons Mm.m1 (Rs.cons Mm.m2 (Rs.cons Mm.m3 Rs.nil))))) fun _ _ => ?_
                  refine .dgo rfl (.n rfl) (OpV.g (OpP.toV (P.asg .t1)) rfl) (.inr fun _ _ _ h => (h.imp (Ls.of (.cons .k2 (.cons .k2 .nil)))).ro (Rs.cons Mm.m0 (Rs.cons Mm.m1 (Rs.cons Mm.m2 (Rs.cons Mm.m3 Rs.nil))))) fun _ _ => ?_
                  refine .dnil ?_
                  exact .dst ⟨p56, q57, u65, b66⟩ trivial (.cons Mm.m0 (.cons Mm.m1 (.cons Mm.m2 (.cons Mm.m3 (.cons Mm.m4 (.cons Mm.m5 (.cons Mm.m6 (.cons Mm.m7 (.cons Mm.m8 .nil))))))))) (Ls.of (.cons .k0 (.cons .k0 (.cons .k0 (.cons .k0 .nil))))) (.cons Mm.m0 (.cons Mm.m1 (.cons Mm.m2 (.cons Mm.m3 .nil))))
              · obtain ⟨p56, q57, u65, b66⟩ := x_
                refine .then ?_
                obtain ⟨y68, hj70, hj31⟩ := bnd_eq hj31
                refine .cutx (γ := Unit) (E1 := fun z69 => [(76, Bo y68), (11, pt b66 0), (9, N s15.1), (8, N s15.2.1), (7, pt b13 0), (0, z5), (1, N a1), (2, N a2)]) (L1 := fun z69 => [blk b66 64 (escrow_State.cs r63.1 u65), blk b13 64 (escrow_State.cs s15.2.2 z16), lst 150 3 u65 (r63.1.Locks.map escrow_Lock.cs)]) (R1 := fun z69 => [rows 27 z5 (y4.map api_Event.cs), rows 3 z16 (s15.2.2.Locks.map escrow_Lock.cs), rows 27 v00 (a0.map api_Event.cs)]) ?_ (fun z69 => ?_)
                · clear hj31
                  refine .reg rfl ?_
                  refine .opp (P.mov .t0) rfl ?_
                  refine .opp (P.mov .t0) rfl ?_
                  refine .split .k0 (fun c71 => ?_) (fun c71 => ?_)
                  · rw [if_pos c71] at hj70
                    refine .gyes rfl .g0 ?_
                    refine .opp (P.mov .t1) rfl ?_
                    refine .gyes rfl .g1 ?_
                    refine .opp (P.mov .g6) rfl ?_
                    refine .gyes rfl .g2 ?_
                    refine .opp (P.mov .g4) rfl ?_
                    refine .gyes rfl .g3 ?_
                    obtain ⟨x75, hx76, hj70⟩ := bnd_eq hj70
                    obtain ⟨i77, hi78, hx76⟩ := at_eq hx76
                    have hi78_ : (s15.1).toNat = i77 := by rw [hi78]; rfl
                    refine .ixq Mm.m0 (map_get hx76) fun p72 q73 hq74 => ?_
                    refine .opp (P.ixi (i := i77) .t0 hi78 .t0 hq74 runUnderlying22 sizeOf38) rfl ?_
                    refine .gyes rfl .g2 ?_
                    refine .opp (P.fa (off' := q73 + 1) .t0 fa_38_1 rfl) rfl ?_
                    refine .gyes rfl .g2 ?_
                    refine .op (V.ldx (u := N x75.Code) (off := q73) (k := 1) .t0 hq74 Mm.m0 (map_get hx76) (.one isAgg30 rfl)) rfl ?_
                    refine .gyes rfl .g2 ?_
                    refine .opp (P.bin .t1 .t0 .eql) rfl ?_
                    refine .opp (P.pickT .t1 .t0) rfl ?_
                    refine .nil ?_
                    cases hj70
                    exact .stj () (.cons Mm.m0 (.cons Mm.m1 (.cons Mm.m2 (.cons Mm.m3 (.cons Mm.m4 (.cons Mm.m5 (.cons Mm.m6 (.cons Mm.m7 .nil)))))))) (.of (.cons .k0 (.cons .k2 (.cons .k0 .nil)))) (.cons Mm.m0 (.cons Mm.m2 (.cons Mm.m3 .nil)))
                  · rw [if_neg (ne_true_of_eq_false c71)] at hj70
                    refine .gno rfl .g0 rfl rfl ?_
                    refine .gno rfl .g0 rfl rfl ?_
                    refine .gno rfl .g0 rfl rfl ?_
                    refine .gno rfl .g0 rfl rfl ?_
                    refine .gno rfl .g0 rfl rfl ?_
                    refine .gno rfl .g0 rfl rfl ?_
                    refine .gno rfl .g0 rfl rfl ?_
                    refine .opp (P.pickF .t0 .k) rfl ?_
                    refine .nil ?_
                    cases hj70
                    exact .stj () (.cons Mm.m0 (.cons Mm.m2 (.cons Mm.m3 (.cons Mm.m4 (.cons Mm.m5 (.cons Mm.m6 (.cons Mm.m7 (.cons Mm.m8 .nil)))))))) (.of (.cons .k0 (.cons .k2 (.cons .k0 .nil)))) (.cons Mm.m0 (.cons Mm.m2 (.cons Mm.m3 .nil)))
                · clear hj70
                  refine .cond .t0 (fun c79 => ?_) (fun c79 => ?_)
                  · rw [if_pos c79] at hj31
                    refine .reg rfl ?_
                    refine .op (V.ld (v := Ag (escrow_State.cs r63.1 u65)) .t0 .k0 (.agg isAgg64 sizeOf64 rfl rfl)) rfl ?_
                    refine .opp (P.mov .g2) rfl ?_
                    refine .opp (P.bin .t0 .k .add) rfl ?_
                    refine .onel .k2 fun ho80 => ?_
                    refine .opg (G.str .t1 .g3 .k1 (.mk (cs' := (escrow_State.cs r63.1 u65)) sizeOf64 rfl (onez_64 _ ho80) rfl rfl)) rfl fun _ _ => ?_
                    refine .drop .k2 ?_
                    refine .opp (P.asg .t0) rfl ?_
                    refine .nil ?_
                    refine .inn ?_
                    cases hj31
                    refine .frz .k2 ?_
                    exact .stj u65 (.cons Mm.m0 (.cons Mm.m1 (.cons Mm.m2 (.cons Mm.m3 (.cons Mm.m4 (.cons Mm.m5 .nil)))))) (.of (.cons .k0 .nil)) (.cons Mm.m1 (.cons Mm.m0 (.cons Mm.m3 .nil)))
                  · rw [if_neg (ne_true_of_eq_false c79)] at hj31
                    refine .skip ?_
                    refine .inn ?_
                    cases hj31
                    exact .stj z16 (.cons Mm.m2 (.cons Mm.m1 (.cons Mm.m3 (.cons Mm.m4 (.cons Mm.m5 (.cons Mm.m6 .nil)))))) (.of (.cons .k1 .nil)) (.cons Mm.m0 (.cons Mm.m1 (.cons Mm.m2 .nil)))
          · clear hj31
            refine .reg rfl ?_
            refine .opp (P.mov .g1) rfl ?_
            refine .opp (P.bin .t0 .k .add) rfl ?_
            refine .drop .k2 ?_
            refine .opp (P.asg .t0) rfl ?_
            refine .nil ?_
            cases hc19
            obtain ⟨m81, hm82, hn20⟩ := hn20
            exact .rdW ((IntKind.i64.wrap (s15.1 + 1), y29.1, y29.2)) z30 hm82 hn20 (.cons Mm.m0 (.cons Mm.m1 (.cons Mm.m2 (.cons Mm.m3 (.cons Mm.m4 (.cons Mm.m5 .nil)))))) (.of (.cons .k0 .nil)) (.cons Mm.m0 (.cons Mm.m1 (.cons Mm.m2 .nil)))
        · rw [if_neg (ne_true_of_eq_false c28)] at hc19
          refine .exit ?_
          refine .thx ?_
          cases hc19
          refine .told (γ := Value) h hn20 (fun (s15 : Int × Int × escrow_State) z16 => [(9, N s15.1), (8, N s15.2.1), (7, pt b13 0), (0, z5), (1, N a1), (2, N a2)]) (fun (s15 : Int × Int × escrow_State) z16 => [blk b13 64 (escrow_State.cs s15.2.2 z16)]) (fun (s15 : Int × Int × escrow_State) z16 => [rows 27 z5 (y4.map api_Event.cs), rows 3 z16 (s15.2.2.Locks.map escrow_Lock.cs), rows 27 v00 (a0.map api_Event.cs)]) z16 (.cons Mm.m0 (.cons Mm.m1 (.cons Mm.m2 (.cons Mm.m3 (.cons Mm.m4 (.cons Mm.m5 .nil)))))) (.of (.cons .k0 .nil)) (.cons Mm.m0 (.cons Mm.m1 (.cons Mm.m2 .nil))) (fun s15 z16 h' => ?_)
          replace h := h'
          refine .thx ?_
          refine .inb ?_
          refine .then ?_
          refine .seq ?_
          refine .reg rfl ?_
          refine .opp (P.mov .t3) rfl ?_
          refine .opp (P.mov .t4) rfl ?_
          refine .opp (P.mov .t5) rfl ?_
          obtain ⟨r83, hr84, h⟩ := bnd_eq h
          refine .opg (G.call call57 (.cons .t2 (.cons .t1 (.cons .t0 .nil))) (S_replay_State z5 y4 a1 a2 r83 hr84) .nil (.cons Mm.m0 .nil) (fun _ _ => rfl) (fun _ _ => rfl) rfl) rfl fun u85 _ => ?_
          refine .opp (P.mov .t0) rfl ?_
          refine .opp (P.ext (v := Ag (escrow_State.cs r83.1 u85)) .g0 rfl) rfl ?_
          refine .opp (P.ext (v := N r83.2) .t1 rfl) rfl ?_
          refine .opx (X.alc (cs := (escrow_State.cs ⟨0, 0, ⟨⟨⟨0, 0, 0, 0⟩, ⟨0, 0, 0, 0⟩⟩, ⟨⟨0, 0, 0, 0⟩, ⟨0, 0, 0, 0⟩⟩, ⟨⟨0, 0, 0, 0⟩, ⟨0, 0, 0, 0⟩⟩, ⟨⟨0, 0, 0, 0⟩, ⟨0, 0, 0, 0⟩⟩, ⟨⟨0, 0, 0, 0⟩, ⟨0, 0, 0, 0⟩⟩, ⟨⟨0, 0, 0, 0⟩, ⟨0, 0, 0, 0⟩⟩, ⟨⟨0, 0, 0, 0⟩, ⟨0, 0, 0, 0⟩⟩, ⟨⟨0, 0, 0, 0⟩, ⟨0, 0, 0, 0⟩⟩⟩, ⟨⟨⟨0, 0, 0, 0⟩, ⟨0, 0, 0, 0⟩⟩, ⟨⟨0, 0, 0, 0⟩, ⟨0, 0, 0, 0⟩⟩, ⟨⟨0, 0, 0, 0⟩, ⟨0, 0, 0, 0⟩⟩, ⟨⟨0, 0, 0, 0⟩, ⟨0, 0, 0, 0⟩⟩, ⟨⟨0, 0, 0, 0⟩, ⟨0, 0, 0, 0⟩⟩, ⟨⟨0, 0, 0, 0⟩, ⟨0, 0, 0, 0⟩⟩, ⟨⟨0, 0, 0, 0⟩, ⟨0, 0, 0, 0⟩⟩, ⟨⟨0, 0, 0, 0⟩, ⟨0, 0, 0, 0⟩⟩⟩, ⟨0, 0, 0, 0, 0, 0, 0, 0⟩, ⟨⟨0, 0, 0, 0⟩, ⟨0, 0, 0, 0⟩⟩, ⟨0, 0, 0, 0⟩, []⟩ nilSl)) zeroValue64 rfl) rfl fun b86 => ?_
          refine .oner Mm.m0 fun ho87 => ?_
          refine .opg (G.str .t2 .g0 .k0 (.mk (cs' := (escrow_State.cs r83.1 u85)) sizeOf64 rfl (onez_64 _ ho87) rfl rfl)) rfl fun _ _ => ?_
          refine .opp (P.asg .t1) rfl ?_
          refine .nil ?_
          refine .then ?_
          obtain ⟨y88, hj90, h⟩ := bnd_eq h
          refine .cutx (γ := Unit) (E1 := fun z89 => [(6, Bo y88)]) (L1 := fun z89 => []) (R1 := fun z89 => [rows 27 v00 (a0.map api_Event.cs)]) ?_ (fun z89 => ?_)
          · clear h
            refine .reg rfl ?_
            refine .op (V.ld (v := Ag (escrow_State.cs r83.1 u85)) .t1 .k0 (.agg isAgg64 sizeOf64 rfl rfl)) rfl ?_
            refine .op (V.ld (v := Ag (escrow_State.cs s15.2.2 z16)) .t4 .k1 (.agg isAgg64 sizeOf64 rfl rfl)) rfl ?_
            obtain ⟨r91, hr92, hj90⟩ := bnd_eq hj90
            refine .opg (G.call call58 (.cons .t1 (.cons .t0 .nil)) (S_narrowslaw37_same r83.1 u85 s15.2.2 z16 r91 hr92) .nil (.cons Mm.m0 (.cons Mm.m2 .nil)) (fun _ _ => rfl) (fun _ _ => rfl) rfl) rfl fun _ _ => ?_
            refine .opp (P.mov .t0) rfl ?_
            refine .split .k0 (fun c93 => ?_) (fun c93 => ?_)
            · rw [if_pos c93] at hj90
              refine .gyes rfl .g0 ?_
              refine .opp (P.mov .t1) rfl ?_
              refine .gyes rfl .g1 ?_
              refine .opp (P.mov .t3) rfl ?_
              refine .gyes rfl .g2 ?_
              refine .opp (P.bin .t1 .t0 .eql) rfl ?_
              refine .opp (P.pickT .t1 .t0) rfl ?_
              refine .opp (P.asg .t0) rfl ?_
              refine .nil ?_
              cases hj90
              exact .stj () (.cons Mm.m0 .nil) (.of .nil) (.cons Mm.m3 .nil)
            · rw [if_neg (ne_true_of_eq_false c93)] at hj90
              refine .gno rfl .g0 rfl rfl ?_
              refine .gno rfl .g0 rfl rfl ?_
              refine .gno rfl .g0 rfl rfl ?_
              refine .opp (P.pickF .t0 .k) rfl ?_
              refine .opp (P.asg .t0) rfl ?_
              refine .nil ?_
              cases hj90
              exact .stj () (.cons Mm.m0 .nil) (.of .nil) (.cons Mm.m3 .nil)
          · clear hj90
            refine .ret ?_
            cases h
            exact .finw () (.r1 rfl (.tmp .g0)) trivial (Ls.of .nil) .nil
attribute [irreducible] narrowslaw37_ReplayTells
end Go.Sl
