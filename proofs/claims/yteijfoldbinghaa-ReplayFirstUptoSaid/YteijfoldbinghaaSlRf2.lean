/- Walked code of the program, its pure functions and their contracts. -/
import Derived.Test.YteijfoldbinghaaSlRf
set_option linter.unusedVariables false
set_option linter.unusedSimpArgs false
namespace Go.Sl
open Go.Proofs Go.Proofs.Try

noncomputable def narrowslaw37_alive  : Option (Bool) :=
  Option.bind (replay_State ([] : List api_Event) 1 7) fun r1 => Option.bind (if (decide (r1.2 = 0)) = true then (if (decide (r1.1.Side = 1)) = true then (if (decide (r1.1.Time = 7)) = true then (Option.bind (replay_Same r1.1 ((escrow_Genesis 1 7))) fun r13 => if r13 = true then (Option.bind (replay_First ([] : List api_Event) ([] : List api_Event)) fun r16 => some (decide (r16 = ((-1))))) else (some false)) else (some false)) else (some false)) else (some false)) fun (y6 : Bool) => some y6
set_option maxRecDepth 20000 in
set_option maxHeartbeats 1000000 in
theorem S_narrowslaw37_alive  (r : Bool) (h : narrowslaw37_alive  = some r) :
    SpecF Try.prog 53 [] [] [] (fun _ : Unit => True) (fun z => Bo r) (fun z M =>  M) (fun z M =>  M) := by
  refine .of func53 rfl ntmps53 rfl fun w0 D0 G0 => ?_
  unfold narrowslaw37_alive at h
  refine .seq ?_
  refine .reg ?_
  refine .op0 (OpP.toV (P.asg .k)) rfl ?_
  refine .nil ?_
  refine .then ?_
  refine .seq ?_
  refine .reg ?_
  refine .rnil0 27 ?_
  obtain ⟨r1, hr2, h⟩ := bnd_eq h
  refine .opg (G.call call57 (.cons .k (.cons .k (.cons .k .nil))) (S_replay_State nilSl ([] : List api_Event) 1 7 r1 hr2) .nil (.cons Mm.m0 .nil) (fun _ _ => rfl) (fun _ _ => rfl) rfl) rfl fun u3 _ => ?_
  refine .opp (P.mov .t0) rfl ?_
  refine .opp (P.ext (v := Ag (escrow_State.cs r1.1 u3)) .g0 rfl) rfl ?_
  refine .opp (P.ext (v := N r1.2) .t1 rfl) rfl ?_
  refine .opx (X.alc (cs := (escrow_State.cs ⟨0, 0, ⟨⟨⟨0, 0, 0, 0⟩, ⟨0, 0, 0, 0⟩⟩, ⟨⟨0, 0, 0, 0⟩, ⟨0, 0, 0, 0⟩⟩, ⟨⟨0, 0, 0, 0⟩, ⟨0, 0, 0, 0⟩⟩, ⟨⟨0, 0, 0, 0⟩, ⟨0, 0, 0, 0⟩⟩, ⟨⟨0, 0, 0, 0⟩, ⟨0, 0, 0, 0⟩⟩, ⟨⟨0, 0, 0, 0⟩, ⟨0, 0, 0, 0⟩⟩, ⟨⟨0, 0, 0, 0⟩, ⟨0, 0, 0, 0⟩⟩, ⟨⟨0, 0, 0, 0⟩, ⟨0, 0, 0, 0⟩⟩⟩, ⟨⟨⟨0, 0, 0, 0⟩, ⟨0, 0, 0, 0⟩⟩, ⟨⟨0, 0, 0, 0⟩, ⟨0, 0, 0, 0⟩⟩, ⟨⟨0, 0, 0, 0⟩, ⟨0, 0, 0, 0⟩⟩, ⟨⟨0, 0, 0, 0⟩, ⟨0, 0, 0, 0⟩⟩, ⟨⟨0, 0, 0, 0⟩, ⟨0, 0, 0, 0⟩⟩, ⟨⟨0, 0, 0, 0⟩, ⟨0, 0, 0, 0⟩⟩, ⟨⟨0, 0, 0, 0⟩, ⟨0, 0, 0, 0⟩⟩, ⟨⟨0, 0, 0, 0⟩, ⟨0, 0, 0, 0⟩⟩⟩, ⟨0, 0, 0, 0, 0, 0, 0, 0⟩, ⟨⟨0, 0, 0, 0⟩, ⟨0, 0, 0, 0⟩⟩, ⟨0, 0, 0, 0⟩, []⟩ nilSl)) zeroValue64 rfl) rfl fun b4 => ?_
  refine .oner Mm.m0 fun ho5 => ?_
  refine .opg (G.str .t2 .g0 .k0 (.mk (cs' := (escrow_State.cs r1.1 u3)) sizeOf64 rfl (onez_64 _ ho5) rfl rfl)) rfl fun _ _ => ?_
  refine .opp (P.asg .t1) rfl ?_
  refine .nil ?_
  refine .then ?_
  obtain ⟨y6, hj8, h⟩ := bnd_eq h
  refine .cutx (γ := Unit) (E1 := fun z7 => [(0, Bo y6)]) (L1 := fun z7 => []) (R1 := fun z7 => []) ?_ (fun z7 => ?_)
  · clear h
    refine .draw 22 (.on 0 .pu (.on 1 .pu (.on 2 .pu (.on 3 .pu (.on 4 .ld (.on 5 .pu (.on 6 .pu (.on 7 .pu (.on 8 .pu (.on 9 .ld (.on 10 .pu (.on 11 .pu (.on 12 .pu (.on 13 .ld (.on 14 .go (.on 15 .go (.on 16 .pu (.on 17 .pu (.on 18 .go (.on 19 .pu (.on 20 .pu (.on 21 .go .nl)))))))))))))))))))))) follows_mixed (.thn .body) (by kernel_rfl) ?_
    refine .dpu rfl (.n rfl) (P.mov .t0) rfl rfl ?_
    refine .dpu rfl (.n rfl) (P.bin .t0 .k .eql) rfl rfl ?_
    refine .dpu rfl (.n rfl) (P.mov .t0) rfl rfl ?_
    refine .split .k0 (fun c9 => ?_) (fun c9 => ?_)
    · rw [if_pos c9] at hj8
      refine .dpu rfl (.g rfl rfl .g0 rfl) (P.fa .g1 fa_64_0 rfl) rfl rfl ?_
      refine .dld rfl (.g rfl rfl .g1 rfl) (V.ld (v := N r1.1.Side) .t0 .k0 (.one isAgg3 rfl)) (fun _ h => h) rfl rfl ?_
      refine .dpu rfl (.g rfl rfl .g1 rfl) (P.bin .t0 .k .eql) rfl rfl ?_
      refine .dpu rfl (.n rfl) (P.pickT .t1 .t0) rfl rfl ?_
      refine .dpu rfl (.n rfl) (P.mov .t0) rfl rfl ?_
      refine .split .k0 (fun c10 => ?_) (fun c10 => ?_)
      · rw [if_pos c10] at hj8
        refine .dpu rfl (.g rfl rfl .g0 rfl) (P.fa .g1 fa_64_1 rfl) rfl rfl ?_
        refine .dld rfl (.g rfl rfl .g1 rfl) (V.ld (v := N r1.1.Time) .t0 .k0 (.one isAgg3 rfl)) (fun _ h => h) rfl rfl ?_
        refine .dpu rfl (.g rfl rfl .g1 rfl) (P.bin .t0 .k .eql) rfl rfl ?_
        refine .dpu rfl (.n rfl) (P.pickT .t1 .t0) rfl rfl ?_
        refine .dpu rfl (.n rfl) (P.mov .t0) rfl rfl ?_
        refine .split .k0 (fun c11 => ?_) (fun c11 => ?_)
        · rw [if_pos c11] at hj8
          refine .dld rfl (.g rfl rfl .g0 rfl) (V.ld (v := Ag (escrow_State.cs r1.1 u3)) .t1 .k0 (.agg isAgg64 sizeOf64 rfl rfl)) (fun _ h => h) rfl rfl ?_
          refine .dgo rfl (.g rfl rfl .g1 rfl) (G.call call54 (.cons .k (.cons .k .nil)) (S_escrow_Genesis 1 7 _ rfl) .nil .nil (fun _ _ => rfl) (fun _ _ => rfl) rfl) (.inr fun _ _ _ h => (h.imp (Ls.of (.cons .k0 .nil))).ro (Rs.cons Mm.m1 (Rs.cons Mm.m2 Rs.nil))) fun u12 _ => ?_
          obtain ⟨r13, hr14, hj8⟩ := bnd_eq hj8
          refine .dgo rfl (.g rfl rfl .g2 rfl) (G.call call60 (.cons .t1 (.cons .t0 .nil)) (S_replay_Same r1.1 u3 ((escrow_Genesis 1 7)) u12 r13 hr14) .nil (.cons Mm.m1 (.cons Mm.m0 .nil)) (fun _ _ => rfl) (fun _ _ => rfl) rfl) (.inr fun _ _ _ h => (h.imp (Ls.of (.cons .k0 .nil))).ro (Rs.cons Mm.m1 (Rs.cons Mm.m2 Rs.nil))) fun _ _ => ?_
          refine .dpu rfl (.n rfl) (P.pickT .t1 .t0) rfl rfl ?_
          refine .dpu rfl (.n rfl) (P.mov .t0) rfl rfl ?_
          refine .split .k0 (fun c15 => ?_) (fun c15 => ?_)
          · rw [if_pos c15] at hj8
            obtain ⟨r16, hr17, hj8⟩ := bnd_eq hj8
            refine .dgo rfl (.g rfl rfl .g0 rfl) (G.call call59 (.cons .k (.cons .k .nil)) (S_replay_First nilSl ([] : List api_Event) nilSl ([] : List api_Event) r16 hr17) .nil (.cons Mm.m2 (.cons Mm.m2 .nil)) (fun _ _ => rfl) (fun _ _ => rfl) rfl) (.inr fun _ _ _ h => (h.imp (Ls.of (.cons .k0 .nil))).ro (Rs.cons Mm.m1 (Rs.cons Mm.m2 Rs.nil))) fun _ _ => ?_
            refine .dpu rfl (.g rfl rfl .g1 rfl) (P.bin .t0 .k .eql) rfl rfl ?_
            refine .dpu rfl (.n rfl) (P.pickT .t1 .t0) rfl rfl ?_
            refine .dgo rfl (.n rfl) (OpV.g (OpP.toV (P.asg .t0)) rfl) (.inr fun _ _ _ h => (h.imp (Ls.of (.cons .k0 .nil))).ro (Rs.cons Mm.m1 (Rs.cons Mm.m2 Rs.nil))) fun _ _ => ?_
            refine .dnil ?_
            cases hj8
            exact .stj () (.cons Mm.m0 .nil) (.of .nil) .nil
          · rw [if_neg (ne_true_of_eq_false c15)] at hj8
            refine .dskg rfl (.g rfl rfl .g0 rfl) (.inr fun _ h => (h.imp (Ls.of (.cons .k0 .nil))).ro (Rs.cons Mm.m1 (Rs.cons Mm.m2 Rs.nil))) rfl rfl ?_
            refine .dsk rfl (.g rfl rfl .g0 rfl) rfl rfl ?_
            refine .dpu rfl (.n rfl) (P.pickF .t0 .k) rfl rfl ?_
            refine .dgo rfl (.n rfl) (OpV.g (OpP.toV (P.asg .t0)) rfl) (.inr fun _ _ _ h => (h.imp (Ls.of (.cons .k0 .nil))).ro (Rs.cons Mm.m1 (Rs.cons Mm.m2 Rs.nil))) fun _ _ => ?_
            refine .dnil ?_
            cases hj8
            exact .stj () (.cons Mm.m0 .nil) (.of .nil) .nil
        · rw [if_neg (ne_true_of_eq_false c11)] at hj8
          refine .dskl rfl (.g rfl rfl .g0 rfl) (fun _ h => h) rfl rfl ?_
          refine .dskg rfl (.g rfl rfl .g0 rfl) (.inr fun _ h => h) rfl rfl ?_
          refine .dskg rfl (.g rfl rfl .g0 rfl) (.inr fun _ h => h) rfl rfl ?_
          refine .dpu rfl (.n rfl) (P.pickF .t0 .k) rfl rfl ?_
          refine .dpu rfl (.n rfl) (P.mov .t0) rfl rfl ?_
          refine .dskg rfl (.g rfl rfl .g0 rfl) (.inr fun _ h => h) rfl rfl ?_
          refine .dsk rfl (.g rfl rfl .g0 rfl) rfl rfl ?_
          refine .dpu rfl (.n rfl) (P.pickF .t0 .k) rfl rfl ?_
          refine .dgo rfl (.n rfl) (OpV.g (OpP.toV (P.asg .t0)) rfl) (.inr fun _ _ _ h => h) fun _ _ => ?_
          refine .dnil ?_
          cases hj8
          exact .stj () (.cons Mm.m0 .nil) (.of .nil) .nil
      · rw [if_neg (ne_true_of_eq_false c10)] at hj8
        refine .dsk rfl (.g rfl rfl .g0 rfl) rfl rfl ?_
        refine .dskl rfl (.g rfl rfl .g0 rfl) (fun _ h => h) rfl rfl ?_
        refine .dsk rfl (.g rfl rfl .g0 rfl) rfl rfl ?_
        refine .dpu rfl (.n rfl) (P.pickF .t0 .k) rfl rfl ?_
        refine .dpu rfl (.n rfl) (P.mov .t0) rfl rfl ?_
        refine .dskl rfl (.g rfl rfl .g0 rfl) (fun _ h => h) rfl rfl ?_
        refine .dskg rfl (.g rfl rfl .g0 rfl) (.inr fun _ h => h) rfl rfl ?_
        refine .dskg rfl (.g rfl rfl .g0 rfl) (.inr fun _ h => h) rfl rfl ?_
        refine .dpu rfl (.n rfl) (P.pickF .t0 .k) rfl rfl ?_
        refine .dpu rfl (.n rfl) (P.mov .t0) rfl rfl ?_
        refine .dskg rfl (.g rfl rfl .g0 rfl) (.inr fun _ h => h) rfl rfl ?_
        refine .dsk rfl (.g rfl rfl .g0 rfl) rfl rfl ?_
        refine .dpu rfl (.n rfl) (P.pickF .t0 .k) rfl rfl ?_
        refine .dgo rfl (.n rfl) (OpV.g (OpP.toV (P.asg .t0)) rfl) (.inr fun _ _ _ h => h) fun _ _ => ?_
        refine .dnil ?_
        cases hj8
        exact .stj () (.cons Mm.m0 .nil) (.of .nil) .nil
    · rw [if_neg (ne_true_of_eq_false c9)] at hj8
      refine .dsk rfl (.g rfl rfl .g0 rfl) rfl rfl ?_
      refine .dskl rfl (.g rfl rfl .g0 rfl) (fun _ h => h) rfl rfl ?_
      refine .dsk rfl (.g rfl rfl .g0 rfl) rfl rfl ?_
      refine .dpu rfl (.n rfl) (P.pickF .t0 .k) rfl rfl ?_
      refine .dpu rfl (.n rfl) (P.mov .t0) rfl rfl ?_
      refine .dsk rfl (.g rfl rfl .g0 rfl) rfl rfl ?_
      refine .dskl rfl (.g rfl rfl .g0 rfl) (fun _ h => h) rfl rfl ?_
      refine .dsk rfl (.g rfl rfl .g0 rfl) rfl rfl ?_
      refine .dpu rfl (.n rfl) (P.pickF .t0 .k) rfl rfl ?_
      refine .dpu rfl (.n rfl) (P.mov .t0) rfl rfl ?_
      refine .dskl rfl (.g rfl rfl .g0 rfl) (fun _ h => h) rfl rfl ?_
      refine .dskg rfl (.g rfl rfl .g0 rfl) (.inr fun _ h => h) rfl rfl ?_
      refine .dskg rfl (.g rfl rfl .g0 rfl) (.inr fun _ h => h) rfl rfl ?_
      refine .dpu rfl (.n rfl) (P.pickF .t0 .k) rfl rfl ?_
      refine .dpu rfl (.n rfl) (P.mov .t0) rfl rfl ?_
      refine .dskg rfl (.g rfl rfl .g0 rfl) (.inr fun _ h => h) rfl rfl ?_
      refine .dsk rfl (.g rfl rfl .g0 rfl) rfl rfl ?_
      refine .dpu rfl (.n rfl) (P.pickF .t0 .k) rfl rfl ?_
      refine .dgo rfl (.n rfl) (OpV.g (OpP.toV (P.asg .t0)) rfl) (.inr fun _ _ _ h => h) fun _ _ => ?_
      refine .dnil ?_
      cases hj8
      exact .stj () (.cons Mm.m0 .nil) (.of .nil) .nil
  · clear hj8
    refine .ret ?_
    cases h
    exact .finw () (.r1 rfl (.tmp .g0)) trivial (Ls.of .nil) .nil
attribute [irreducible] narrowslaw37_alive
noncomputable def narrowslaw37_ReplayFirst (a0 : List api_Event) (a1 : List api_Event) (a2 : escrow_State) (a3 : escrow_State) : Option (Bool) :=
  Option.bind (loopW (fun (s3 : Int × Int) => thn (if (decide (s3.1 < ((a0.length : Int)))) = true then (decide (s3.2 < 0)) else (if (decide (s3.1 < ((a1.length : Int)))) = true then (decide (s3.2 < 0)) else false)) fun (y12 : Bool) => if y12 = true then (Option.bind (Option.bind (if (decide (s3.1 ≥ ((a0.length : Int)))) = true then (some true) else (if (decide (s3.1 ≥ ((a1.length : Int)))) = true then (some true) else (Option.bind (at_ a0 s3.1) fun (x29 : api_Event) => Option.bind (at_ a1 s3.1) fun (x36 : api_Event) => some (decide ((x29 : api_Event) ≠ (x36 : api_Event)))))) fun (y21 : Bool) => if y21 = true then (some s3.1) else (some s3.2)) fun (y18 : Int) => some (.nx ((IntKind.i64.wrap (s3.1 + 1), y18)))) else (some (.br (s3.1, s3.2)))) ((0, (-1)))) fun o5 => Lo.on o5 fun (s3 : Int × Int) => Option.bind (Option.bind (replay_First a0 a1) fun r46 => if (decide (r46 = s3.2)) = true then (Option.bind (replay_Same a2 a3) fun r49 => Option.bind (narrowslaw37_same a2 a3) fun r51 => if (decide (r49 = r51)) = true then (Option.bind (replay_Same a2 a2) fun r54 => if r54 = true then (Option.bind (narrowslaw37_alive) fun r57 => some r57) else (some false)) else (some false)) else (some false)) fun (y43 : Bool) => some y43
set_option maxRecDepth 20000 in
set_option maxHeartbeats 1000000 in
theorem S_narrowslaw37_ReplayFirst (v00 : Value) (a0 : List api_Event) (v01 : Value) (a1 : List api_Event) (a2 : escrow_State) (z02a : Value) (a3 : escrow_State) (z03a : Value) (r : Bool) (h : narrowslaw37_ReplayFirst a0 a1 a2 a3 = some r) :
    SpecF Try.prog 14 [v00, v01, Ag (escrow_State.cs a2 z02a), Ag (escrow_State.cs a3 z03a)] [] [rows 27 v00 (a0.map api_Event.cs), rows 27 v01 (a1.map api_Event.cs), rows 3 z02a (a2.Locks.map escrow_Lock.cs), rows 3 z03a (a3.Locks.map escrow_Lock.cs)] (fun _ : Unit => True) (fun z => Bo r) (fun z M =>  M) (fun z M =>  M) := by
  refine .of func14 rfl ntmps14 rfl fun w0 D0 G0 => ?_
  unfold narrowslaw37_ReplayFirst at h
  refine .seq ?_
  refine .reg ?_
  refine .opx (X.box (cs := (escrow_State.cs a2 z02a)) .t2 rfl) rfl fun b1 => ?_
  refine .opx (X.box (cs := (escrow_State.cs a3 z03a)) .t3 rfl) rfl fun b2 => ?_
  refine .op0 (OpP.toV (P.asg .k)) rfl ?_
  refine .nil ?_
  refine .then ?_
  refine .seq ?_
  refine .reg ?_
  refine .opp (P.asg .k) rfl ?_
  refine .nil ?_
  refine .then ?_
  refine .seq ?_
  refine .seq ?_
  refine .reg ?_
  refine .opp (P.asg .k) rfl ?_
  refine .nil ?_
  refine .then ?_
  refine .block ?_
  obtain ⟨o5, ho6, h⟩ := bnd_eq h
  refine .loopW (γ := Unit) (fun (s3 : Int × Int) z4 => [(10, N s3.1), (9, N s3.2), (7, pt b2 0), (6, pt b1 0), (0, v00), (1, v01)]) (fun (s3 : Int × Int) z4 => [blk b2 64 (escrow_State.cs a3 z03a), blk b1 64 (escrow_State.cs a2 z02a)]) (fun (s3 : Int × Int) z4 => [rows 27 v00 (a0.map api_Event.cs), rows 27 v01 (a1.map api_Event.cs), rows 3 z03a (a3.Locks.map escrow_Lock.cs), rows 3 z02a (a2.Locks.map escrow_Lock.cs)]) () ho6 (.cons Mm.m0 (.cons Mm.m1 (.cons Mm.m2 (.cons Mm.m3 (.cons Mm.m4 (.cons Mm.m5 .nil)))))) (.of (.cons .k0 (.cons .k0 .nil))) (.cons Mm.m0 (.cons Mm.m1 (.cons Mm.m3 (.cons Mm.m2 .nil)))) (fun n11 s3 z4 hr9 => ?_)
  obtain ⟨ct10, hc7, hn8⟩ := loopK_at hr9
  refine .seq ?_
  obtain ⟨y12, hj14, hc7⟩ := thn_eq hc7
  refine .cutx (γ := Unit) (E1 := fun z13 => [(24, Bo y12), (10, N s3.1), (9, N s3.2), (7, pt b2 0), (6, pt b1 0), (0, v00), (1, v01)]) (L1 := fun z13 => [blk b2 64 (escrow_State.cs a3 z03a), blk b1 64 (escrow_State.cs a2 z02a)]) (R1 := fun z13 => [rows 27 v00 (a0.map api_Event.cs), rows 27 v01 (a1.map api_Event.cs), rows 3 z03a (a3.Locks.map escrow_Lock.cs), rows 3 z02a (a2.Locks.map escrow_Lock.cs)]) ?_ (fun z13 => ?_)
  · clear hc7
    refine .reg ?_
    refine .opp (P.mov .g0) rfl ?_
    refine .opp (P.mov .g5) rfl ?_
    refine .op (V.lnr (n := a0.length) .t0 Mm.m0 map_len runUnderlying22) rfl ?_
    refine .opp (P.bin .t1 .t0 .lss) rfl ?_
    refine .opp (P.mov .t0) rfl ?_
    refine .split .k0 (fun c15 => ?_) (fun c15 => ?_)
    · rw [if_pos c15] at hj14
      refine .gno rfl .g0 rfl rfl ?_
      refine .gno rfl .g0 rfl rfl ?_
      refine .gno rfl .g0 rfl rfl ?_
      refine .gno rfl .g0 rfl rfl ?_
      refine .opp (P.pickT .t0 .k) rfl ?_
      refine .opp (P.mov .t0) rfl ?_
      refine .gyes rfl .g0 ?_
      refine .opp (P.mov .g2) rfl ?_
      refine .gyes rfl .g1 ?_
      refine .opp (P.bin .g0 .k .lss) rfl ?_
      refine .opp (P.pickT .t2 .g0) rfl ?_
      refine .nil ?_
      subst hj14
      exact .stj () (.cons Mm.m0 (.cons Mm.m3 (.cons Mm.m4 (.cons Mm.m5 (.cons Mm.m6 (.cons Mm.m7 (.cons Mm.m8 .nil))))))) (.of (.cons .k0 (.cons .k0 .nil))) (.cons Mm.m0 (.cons Mm.m1 (.cons Mm.m2 (.cons Mm.m3 .nil))))
    · rw [if_neg (ne_true_of_eq_false c15)] at hj14
      refine .gyes rfl .g0 ?_
      refine .opp (P.mov .g1) rfl ?_
      refine .gyes rfl .g1 ?_
      refine .opp (P.mov .g7) rfl ?_
      refine .gyes rfl .g2 ?_
      refine .op (V.lnr (n := a1.length) .g0 Mm.m1 map_len runUnderlying22) rfl ?_
      refine .gyes rfl .g3 ?_
      refine .opp (P.bin .g2 .g0 .lss) rfl ?_
      refine .opp (P.pickF .t4 .g0) rfl ?_
      refine .opp (P.mov .t0) rfl ?_
      refine .split .k0 (fun c16 => ?_) (fun c16 => ?_)
      · rw [if_pos c16] at hj14
        refine .gyes rfl .g0 ?_
        refine .opp (P.mov .g6) rfl ?_
        refine .gyes rfl .g1 ?_
        refine .opp (P.bin .g0 .k .lss) rfl ?_
        refine .opp (P.pickT .t2 .g0) rfl ?_
        refine .nil ?_
        subst hj14
        exact .stj () (.cons Mm.m0 (.cons Mm.m7 (.cons Mm.m8 (.cons Mm.m9 (.cons Mm.m10 (.cons Mm.m11 (.cons Mm.m12 .nil))))))) (.of (.cons .k0 (.cons .k0 .nil))) (.cons Mm.m0 (.cons Mm.m1 (.cons Mm.m2 (.cons Mm.m3 .nil))))
      · rw [if_neg (ne_true_of_eq_false c16)] at hj14
        refine .gno rfl .g0 rfl rfl ?_
        refine .gno rfl .g0 rfl rfl ?_
        refine .opp (P.pickF .t0 .k) rfl ?_
        refine .nil ?_
        subst hj14
        exact .stj () (.cons Mm.m0 (.cons Mm.m5 (.cons Mm.m6 (.cons Mm.m7 (.cons Mm.m8 (.cons Mm.m9 (.cons Mm.m10 .nil))))))) (.of (.cons .k0 (.cons .k0 .nil))) (.cons Mm.m0 (.cons Mm.m1 (.cons Mm.m2 (.cons Mm.m3 .nil))))
  · clear hj14
    refine .cond .t0 (fun c17 => ?_) (fun c17 => ?_)
    · rw [if_pos c17] at hc7
      refine .skip ?_
      refine .then ?_
      obtain ⟨y18, hj20, hc7⟩ := bnd_eq hc7
      refine .cutx (γ := Unit) (E1 := fun z19 => [(9, N y18), (10, N s3.1), (7, pt b2 0), (6, pt b1 0), (0, v00), (1, v01)]) (L1 := fun z19 => [blk b2 64 (escrow_State.cs a3 z03a), blk b1 64 (escrow_State.cs a2 z02a)]) (R1 := fun z19 => [rows 27 v00 (a0.map api_Event.cs), rows 27 v01 (a1.map api_Event.cs), rows 3 z03a (a3.Locks.map escrow_Lock.cs), rows 3 z02a (a2.Locks.map escrow_Lock.cs)]) ?_ (fun z19 => ?_)
      · clear hc7
        refine .block ?_
        obtain ⟨y21, hj23, hj20⟩ := bnd_eq hj20
        refine .cutx (γ := Unit) (E1 := fun z22 => [(47, Bo y21), (10, N s3.1), (9, N s3.2), (7, pt b2 0), (6, pt b1 0), (0, v00), (1, v01)]) (L1 := fun z22 => [blk b2 64 (escrow_State.cs a3 z03a), blk b1 64 (escrow_State.cs a2 z02a)]) (R1 := fun z22 => [rows 27 v00 (a0.map api_Event.cs), rows 27 v01 (a1.map api_Event.cs), rows 3 z03a (a3.Locks.map escrow_Lock.cs), rows 3 z02a (a2.Locks.map escrow_Lock.cs)]) ?_ (fun z22 => ?_)
        · clear hj20
          refine .draw 21 (.on 0 .pu (.on 1 .pu (.on 2 .ld (.on 3 .pu (.on 4 .pu (.on 5 .pu (.on 6 .pu (.on 7 .ld (.on 8 .pu (.on 9 .pu (.on 10 .pu (.on 11 .pu (.on 12 .pu (.on 13 .pu (.on 15 .pu (.on 16 .pu (.on 17 .pu (.on 14 .ld (.on 18 .ld (.on 19 .pu (.on 20 .pu .nl))))))))))))))))))))) follows_mixed (.thn (.inb (.thn (.thn (.inb (.thn .body)))))) (by kernel_rfl) ?_
          refine .dpu rfl (.n rfl) (P.mov .g0) rfl rfl ?_
          refine .dpu rfl (.n rfl) (P.mov .g5) rfl rfl ?_
          refine .dld rfl (.n rfl) (V.lnr (n := a0.length) .t0 Mm.m0 map_len runUnderlying22) (fun _ h => h) rfl rfl ?_
          refine .dpu rfl (.n rfl) (P.bin .t1 .t0 .geq) rfl rfl ?_
          refine .dpu rfl (.n rfl) (P.mov .t0) rfl rfl ?_
          refine .split .k0 (fun c24 => ?_) (fun c24 => ?_)
          · rw [if_pos c24] at hj23
            refine .dsk rfl (.g rfl rfl .g0 rfl) rfl rfl ?_
            refine .dsk rfl (.g rfl rfl .g0 rfl) rfl rfl ?_
            refine .dskl rfl (.g rfl rfl .g0 rfl) (fun _ h => h) rfl rfl ?_
            refine .dsk rfl (.g rfl rfl .g0 rfl) rfl rfl ?_
            refine .dpu rfl (.n rfl) (P.pickT .t0 .k) rfl rfl ?_
            refine .dpu rfl (.n rfl) (P.mov .t0) rfl rfl ?_
            refine .dsk rfl (.g rfl rfl .g0 rfl) rfl rfl ?_
            refine .dsk rfl (.g rfl rfl .g0 rfl) rfl rfl ?_
            refine .dsk rfl (.g rfl rfl .g0 rfl) rfl rfl ?_
            refine .dsk rfl (.g rfl rfl .g0 rfl) rfl rfl ?_
            refine .dsk rfl (.g rfl rfl .g0 rfl) rfl rfl ?_
            refine .dsk rfl (.g rfl rfl .g0 rfl) rfl rfl ?_
            refine .dskl rfl (.g rfl rfl .g0 rfl) (fun _ h => h) rfl rfl ?_
            refine .dskl rfl (.g rfl rfl .g0 rfl) (fun _ h => h) rfl rfl ?_
            refine .dsk rfl (.g rfl rfl .g0 rfl) rfl rfl ?_
            refine .dpu rfl (.n rfl) (P.pickT .t0 .k) rfl rfl ?_
            refine .dnil ?_
            cases hj23
            exact .stj () (.cons Mm.m0 (.cons Mm.m1 (.cons Mm.m2 (.cons Mm.m3 (.cons Mm.m4 (.cons Mm.m5 (.cons Mm.m6 .nil))))))) (.of (.cons .k0 (.cons .k0 .nil))) (.cons Mm.m0 (.cons Mm.m1 (.cons Mm.m2 (.cons Mm.m3 .nil))))
          · rw [if_neg (ne_true_of_eq_false c24)] at hj23
            refine .dpu rfl (.g rfl rfl .g0 rfl) (P.mov .g1) rfl rfl ?_
            refine .dpu rfl (.g rfl rfl .g1 rfl) (P.mov .g7) rfl rfl ?_
            refine .dld rfl (.g rfl rfl .g2 rfl) (V.lnr (n := a1.length) .g0 Mm.m1 map_len runUnderlying22) (fun _ h => h) rfl rfl ?_
            refine .dpu rfl (.g rfl rfl .g3 rfl) (P.bin .g2 .g0 .geq) rfl rfl ?_
            refine .dpu rfl (.n rfl) (P.pickF .t4 .g0) rfl rfl ?_
            refine .dpu rfl (.n rfl) (P.mov .t0) rfl rfl ?_
            refine .split .k0 (fun c25 => ?_) (fun c25 => ?_)
            · rw [if_pos c25] at hj23
              refine .dsk rfl (.g rfl rfl .g0 rfl) rfl rfl ?_
              refine .dsk rfl (.g rfl rfl .g0 rfl) rfl rfl ?_
              refine .dsk rfl (.g rfl rfl .g0 rfl) rfl rfl ?_
              refine .dsk rfl (.g rfl rfl .g0 rfl) rfl rfl ?_
              refine .dsk rfl (.g rfl rfl .g0 rfl) rfl rfl ?_
              refine .dsk rfl (.g rfl rfl .g0 rfl) rfl rfl ?_
              refine .dskl rfl (.g rfl rfl .g0 rfl) (fun _ h => h) rfl rfl ?_
              refine .dskl rfl (.g rfl rfl .g0 rfl) (fun _ h => h) rfl rfl ?_
              refine .dsk rfl (.g rfl rfl .g0 rfl) rfl rfl ?_
              refine .dpu rfl (.n rfl) (P.pickT .t0 .k) rfl rfl ?_
              refine .dnil ?_
              cases hj23
              exact .stj () (.cons Mm.m0 (.cons Mm.m5 (.cons Mm.m6 (.cons Mm.m7 (.cons Mm.m8 (.cons Mm.m9 (.cons Mm.m10 .nil))))))) (.of (.cons .k0 (.cons .k0 .nil))) (.cons Mm.m0 (.cons Mm.m1 (.cons Mm.m2 (.cons Mm.m3 .nil))))
            · rw [if_neg (ne_true_of_eq_false c25)] at hj23
              refine .dpu rfl (.g rfl rfl .g0 rfl) (P.mov .g9) rfl rfl ?_
              refine .dpu rfl (.g rfl rfl .g1 rfl) (P.mov .g6) rfl rfl ?_
              obtain ⟨x29, hx30, hj23⟩ := bnd_eq hj23
              obtain ⟨i31, hi32, hx30⟩ := at_eq hx30
              refine .ixq Mm.m0 (map_get hx30) fun p26 q27 hq28 => ?_
              refine .dpu rfl (.g rfl rfl .g2 rfl) (P.ixi (i := i31) .g0 hi32 .g1 hq28 runUnderlying22 sizeOf38) rfl rfl ?_
              refine .dpu rfl (.g rfl rfl .g3 rfl) (P.mov .g13) rfl rfl ?_
              refine .dpu rfl (.g rfl rfl .g4 rfl) (P.mov .g9) rfl rfl ?_
              obtain ⟨x36, hx37, hj23⟩ := bnd_eq hj23
              obtain ⟨i38, hi39, hx37⟩ := at_eq hx37
              refine .ixq Mm.m1 (map_get hx37) fun p33 q34 hq35 => ?_
              refine .dpu rfl (.g rfl rfl .g5 rfl) (P.ixi (i := i38) .g0 hi39 .g1 hq35 runUnderlying22 sizeOf38) rfl rfl ?_
              refine .dld rfl (.g rfl rfl .g6 rfl) (V.ldx0 (u := Ag (api_Event.cs x29)) .g3 hq28 Mm.m0 (map_get hx30) (.agg isAgg38 sizeOf38 rfl rfl)) (fun _ h => h) rfl rfl ?_
              refine .dld rfl (.g rfl rfl .g7 rfl) (V.ldx0 (u := Ag (api_Event.cs x36)) .g1 hq35 Mm.m1 (map_get hx37) (.agg isAgg38 sizeOf38 rfl rfl)) (fun _ h => h) rfl rfl ?_
              refine .dpu rfl (.g rfl rfl .g8 rfl) (P.bin .g1 .g0 (eq_38_neq _ _)) rfl rfl ?_
              refine .dpu rfl (.n rfl) (P.pickF .t9 .g0) rfl rfl ?_
              refine .dnil ?_
              cases hj23
              exact .stj () (.cons Mm.m0 (.cons Mm.m14 (.cons Mm.m15 (.cons Mm.m16 (.cons Mm.m17 (.cons Mm.m18 (.cons Mm.m19 .nil))))))) (.of (.cons .k0 (.cons .k0 .nil))) (.cons Mm.m0 (.cons Mm.m1 (.cons Mm.m2 (.cons Mm.m3 .nil))))
        · clear hj23
          refine .cond .t0 (fun c40 => ?_) (fun c40 => ?_)
          · rw [if_pos c40] at hj20
            refine .reg ?_
            refine .opp (P.mov .g0) rfl ?_
            refine .drop .k2 ?_
            refine .opp (P.asg .t0) rfl ?_
            refine .nil ?_
            refine .inn ?_
            cases hj20
            exact .stj () (.cons Mm.m0 (.cons Mm.m1 (.cons Mm.m2 (.cons Mm.m3 (.cons Mm.m4 (.cons Mm.m5 .nil)))))) (.of (.cons .k0 (.cons .k0 .nil))) (.cons Mm.m0 (.cons Mm.m1 (.cons Mm.m2 (.cons Mm.m3 .nil))))
          · rw [if_neg (ne_true_of_eq_false c40)] at hj20
            refine .skip ?_
            refine .inn ?_
            cases hj20
            exact .stj () (.cons Mm.m1 (.cons Mm.m0 (.cons Mm.m2 (.cons Mm.m3 (.cons Mm.m4 (.cons Mm.m5 .nil)))))) (.of (.cons .k0 (.cons .k0 .nil))) (.cons Mm.m0 (.cons Mm.m1 (.cons Mm.m2 (.cons Mm.m3 .nil))))
      · clear hj20
        refine .reg ?_
        refine .opp (P.mov .g1) rfl ?_
        refine .opp (P.bin .t0 .k .add) rfl ?_
        refine .drop .k2 ?_
        refine .opp (P.asg .t0) rfl ?_
        refine .nil ?_
        cases hc7
        obtain ⟨m41, hm42, hn8⟩ := hn8
        exact .rdW ((IntKind.i64.wrap (s3.1 + 1), y18)) () hm42 hn8 (.cons Mm.m0 (.cons Mm.m1 (.cons Mm.m2 (.cons Mm.m3 (.cons Mm.m4 (.cons Mm.m5 .nil)))))) (.of (.cons .k0 (.cons .k0 .nil))) (.cons Mm.m0 (.cons Mm.m1 (.cons Mm.m2 (.cons Mm.m3 .nil))))
    · rw [if_neg (ne_true_of_eq_false c17)] at hc7
      refine .exit ?_
      refine .thx ?_
      cases hc7
      refine .told (γ := Unit) h hn8 (fun (s3 : Int × Int) _ => [(10, N s3.1), (9, N s3.2), (7, pt b2 0), (6, pt b1 0), (0, v00), (1, v01)]) (fun (s3 : Int × Int) _ => [blk b2 64 (escrow_State.cs a3 z03a), blk b1 64 (escrow_State.cs a2 z02a)]) (fun (s3 : Int × Int) _ => [rows 27 v00 (a0.map api_Event.cs), rows 27 v01 (a1.map api_Event.cs), rows 3 z03a (a3.Locks.map escrow_Lock.cs), rows 3 z02a (a2.Locks.map escrow_Lock.cs)]) () (.cons Mm.m0 (.cons Mm.m1 (.cons Mm.m2 (.cons Mm.m3 (.cons Mm.m4 (.cons Mm.m5 .nil)))))) (.of (.cons .k0 (.cons .k0 .nil))) (.cons Mm.m0 (.cons Mm.m1 (.cons Mm.m2 (.cons Mm.m3 .nil)))) (fun s3 _ h' => ?_)
      replace h := h'
      refine .thx ?_
      refine .inb ?_
      refine .then ?_
      obtain ⟨y43, hj45, h⟩ := bnd_eq h
      refine .cutx (γ := Unit) (E1 := fun z44 => [(8, Bo y43)]) (L1 := fun z44 => []) (R1 := fun z44 => [rows 27 v00 (a0.map api_Event.cs), rows 27 v01 (a1.map api_Event.cs), rows 3 z03a (a3.Locks.map escrow_Lock.cs), rows 3 z02a (a2.Locks.map escrow_Lock.cs)]) ?_ (fun z44 => ?_)
      · clear h
        refine .draw 23 (.on 0 .pu (.on 1 .pu (.on 3 .pu (.on 2 .go (.on 4 .pu (.on 5 .pu (.on 6 .ld (.on 7 .ld (.on 9 .ld (.on 10 .ld (.on 8 .go (.on 11 .go (.on 12 .pu (.on 13 .pu (.on 14 .pu (.on 15 .ld (.on 16 .ld (.on 17 .go (.on 18 .pu (.on 19 .pu (.on 20 .go (.on 21 .pu (.on 22 .go .nl))))))))))))))))))))))) follows_mixed (.thn .body) (by kernel_rfl) ?_
        refine .dpu rfl (.n rfl) (P.mov .t4) rfl rfl ?_
        refine .dpu rfl (.n rfl) (P.mov .t5) rfl rfl ?_
        refine .dpu rfl (.n rfl) (P.mov .t3) rfl rfl ?_
        obtain ⟨r46, hr47, hj45⟩ := bnd_eq hj45
        refine .dgo rfl (.n rfl) (G.call call59 (.cons .t2 (.cons .t1 .nil)) (S_replay_First v00 a0 v01 a1 r46 hr47) .nil (.cons Mm.m0 (.cons Mm.m1 .nil)) (fun _ _ => rfl) (fun _ _ => rfl) rfl) (.inr fun _ _ _ h => h) fun _ _ => ?_
        refine .dpu rfl (.n rfl) (P.bin .t0 .t0 .eql) rfl rfl ?_
        refine .dpu rfl (.n rfl) (P.mov .t0) rfl rfl ?_
        refine .split .k0 (fun c48 => ?_) (fun c48 => ?_)
        · rw [if_pos c48] at hj45
          refine .dld rfl (.g rfl rfl .g0 rfl) (V.ld (v := Ag (escrow_State.cs a2 z02a)) .g3 .k1 (.agg isAgg64 sizeOf64 rfl rfl)) (fun _ h => h) rfl rfl ?_
          refine .dld rfl (.g rfl rfl .g1 rfl) (V.ld (v := Ag (escrow_State.cs a3 z03a)) .g3 .k0 (.agg isAgg64 sizeOf64 rfl rfl)) (fun _ h => h) rfl rfl ?_
          refine .dld rfl (.g rfl rfl .g2 rfl) (V.ld (v := Ag (escrow_State.cs a2 z02a)) .g5 .k1 (.agg isAgg64 sizeOf64 rfl rfl)) (fun _ h => h) rfl rfl ?_
          refine .dld rfl (.g rfl rfl .g3 rfl) (V.ld (v := Ag (escrow_State.cs a3 z03a)) .t5 .k0 (.agg isAgg64 sizeOf64 rfl rfl)) (fun _ h => h) rfl rfl ?_
          obtain ⟨r49, hr50, hj45⟩ := bnd_eq hj45
          refine .dgo rfl (.g rfl rfl .g4 rfl) (G.call call60 (.cons .t3 (.cons .t2 .nil)) (S_replay_Same a2 z02a a3 z03a r49 hr50) .nil (.cons Mm.m3 (.cons Mm.m2 .nil)) (fun _ _ => rfl) (fun _ _ => rfl) rfl) (.inr fun _ _ _ h => h) fun _ _ => ?_
          obtain ⟨r51, hr52, hj45⟩ := bnd_eq hj45
          refine .dgo rfl (.g rfl rfl .g3 rfl) (G.call call58 (.cons .t2 (.cons .t1 .nil)) (S_narrowslaw37_same a2 z02a a3 z03a r51 hr52) .nil (.cons Mm.m3 (.cons Mm.m2 .nil)) (fun _ _ => rfl) (fun _ _ => rfl) rfl) (.inr fun _ _ _ h => h) fun _ _ => ?_
          refine .dpu rfl (.g rfl rfl .g2 rfl) (P.bin .t1 .t0 (.bool_eql (by kernel_rfl))) rfl rfl ?_
          refine .dpu rfl (.n rfl) (P.pickT .t1 .t0) rfl rfl ?_
          refine .dpu rfl (.n rfl) (P.mov .t0) rfl rfl ?_
          refine .split .k0 (fun c53 => ?_) (fun c53 => ?_)
          · rw [if_pos c53] at hj45
            refine .dld rfl (.g rfl rfl .g0 rfl) (V.ld (v := Ag (escrow_State.cs a2 z02a)) .g2 .k1 (.agg isAgg64 sizeOf64 rfl rfl)) (fun _ h => h) rfl rfl ?_
            refine .dld rfl (.g rfl rfl .g1 rfl) (V.ld (v := Ag (escrow_State.cs a2 z02a)) .t3 .k1 (.agg isAgg64 sizeOf64 rfl rfl)) (fun _ h => h) rfl rfl ?_
            obtain ⟨r54, hr55, hj45⟩ := bnd_eq hj45
            refine .dgo rfl (.g rfl rfl .g2 rfl) (G.call call60 (.cons .t1 (.cons .t0 .nil)) (S_replay_Same a2 z02a a2 z02a r54 hr55) .nil (.cons Mm.m3 (.cons Mm.m3 .nil)) (fun _ _ => rfl) (fun _ _ => rfl) rfl) (.inr fun _ _ _ h => h) fun _ _ => ?_
            refine .dpu rfl (.n rfl) (P.pickT .t1 .t0) rfl rfl ?_
            refine .dpu rfl (.n rfl) (P.mov .t0) rfl rfl ?_
            refine .split .k0 (fun c56 => ?_) (fun c56 => ?_)
            · rw [if_pos c56] at hj45
              obtain ⟨r57, hr58, hj45⟩ := bnd_eq hj45
              refine .dgo rfl (.g rfl rfl .g0 rfl) (G.call call53 .nil (S_narrowslaw37_alive  r57 hr58) .nil .nil (fun _ _ => rfl) (fun _ _ => rfl) rfl) (.inr fun _ _ _ h => h) fun _ _ => ?_
              refine .dpu rfl (.n rfl) (P.pickT .t1 .t0) rfl rfl ?_
              refine .dgo rfl (.n rfl) (OpV.g (OpP.toV (P.asg .t0)) rfl) (.inr fun _ _ _ h => h) fun _ _ => ?_
              refine .dnil ?_
              cases hj45
              exact .stj () (.cons Mm.m0 .nil) (.of .nil) (.cons Mm.m0 (.cons Mm.m1 (.cons Mm.m2 (.cons Mm.m3 .nil))))
            · rw [if_neg (ne_true_of_eq_false c56)] at hj45
              refine .dskg rfl (.g rfl rfl .g0 rfl) (.inr fun _ h => h) rfl rfl ?_
              refine .dpu rfl (.n rfl) (P.pickF .t0 .k) rfl rfl ?_
              refine .dgo rfl (.n rfl) (OpV.g (OpP.toV (P.asg .t0)) rfl) (.inr fun _ _ _ h => h) fun _ _ => ?_
              refine .dnil ?_
              cases hj45
              exact .stj () (.cons Mm.m0 .nil) (.of .nil) (.cons Mm.m0 (.cons Mm.m1 (.cons Mm.m2 (.cons Mm.m3 .nil))))
          · rw [if_neg (ne_true_of_eq_false c53)] at hj45
            refine .dskl rfl (.g rfl rfl .g0 rfl) (fun _ h => h) rfl rfl ?_
            refine .dskl rfl (.g rfl rfl .g0 rfl) (fun _ h => h) rfl rfl ?_
            refine .dskg rfl (.g rfl rfl .g0 rfl) (.inr fun _ h => h) rfl rfl ?_
            refine .dpu rfl (.n rfl) (P.pickF .t0 .k) rfl rfl ?_
            refine .dpu rfl (.n rfl) (P.mov .t0) rfl rfl ?_
            refine .dskg rfl (.g rfl rfl .g0 rfl) (.inr fun _ h => h) rfl rfl ?_
            refine .dpu rfl (.n rfl) (P.pickF .t0 .k) rfl rfl ?_
            refine .dgo rfl (.n rfl) (OpV.g (OpP.toV (P.asg .t0)) rfl) (.inr fun _ _ _ h => h) fun _ _ => ?_
            refine .dnil ?_
            cases hj45
            exact .stj () (.cons Mm.m0 .nil) (.of .nil) (.cons Mm.m0 (.cons Mm.m1 (.cons Mm.m2 (.cons Mm.m3 .nil))))
        · rw [if_neg (ne_true_of_eq_false c48)] at hj45
          refine .dskl rfl (.g rfl rfl .g0 rfl) (fun _ h => h) rfl rfl ?_
          refine .dskl rfl (.g rfl rfl .g0 rfl) (fun _ h => h) rfl rfl ?_
          refine .dskl rfl (.g rfl rfl .g0 rfl) (fun _ h => h) rfl rfl ?_
          refine .dskl rfl (.g rfl rfl .g0 rfl) (fun _ h => h) rfl rfl ?_
          refine .dskg rfl (.g rfl rfl .g0 rfl) (.inr fun _ h => h) rfl rfl ?_
          refine .dskg rfl (.g rfl rfl .g0 rfl) (.inr fun _ h => h) rfl rfl ?_
          refine .dsk rfl (.g rfl rfl .g0 rfl) rfl rfl ?_
          refine .dpu rfl (.n rfl) (P.pickF .t0 .k) rfl rfl ?_
          refine .dpu rfl (.n rfl) (P.mov .t0) rfl rfl ?_
          refine .dskl rfl (.g rfl rfl .g0 rfl) (fun _ h => h) rfl rfl ?_
          refine .dskl rfl (.g rfl rfl .g0 rfl) (fun _ h => h) rfl rfl ?_
          refine .dskg rfl (.g rfl rfl .g0 rfl) (.inr fun _ h => h) rfl rfl ?_
          refine .dpu rfl (.n rfl) (P.pickF .t0 .k) rfl rfl ?_
          refine .dpu rfl (.n rfl) (P.mov .t0) rfl rfl ?_
          refine .dskg rfl (.g rfl rfl .g0 rfl) (.inr fun _ h => h) rfl rfl ?_
          refine .dpu rfl (.n rfl) (P.pickF .t0 .k) rfl rfl ?_
          refine .dgo rfl (.n rfl) (OpV.g (OpP.toV (P.asg .t0)) rfl) (.inr fun _ _ _ h => h) fun _ _ => ?_
          refine .dnil ?_
          cases hj45
          exact .stj () (.cons Mm.m0 .nil) (.of .nil) (.cons Mm.m0 (.cons Mm.m1 (.cons Mm.m2 (.cons Mm.m3 .nil))))
      · clear hj45
        refine .ret ?_
        cases h
        exact .finw () (.r1 rfl (.tmp .g0)) trivial (Ls.of .nil) .nil
attribute [irreducible] narrowslaw37_ReplayFirst
end Go.Sl
