/- Walked code of the program, its pure functions and their contracts. -/
import Derived.Test.YtdkjcjicnnegkaaGreatSlSre
set_option linter.unusedVariables false
set_option linter.unusedSimpArgs false
namespace Go.Sl
open Go.Proofs Go.Proofs.Tryz

noncomputable def world_World_Step_bx (a0 : Option world_World) (a1 : api_Step) : Option ((Option world_World)) :=
  Option.bind (world_World_is_bx a0) fun r2 => if (!r2) = true then (some a0) else (if (decide (a1.Kind = 1)) = true then (Option.bind (world_World_tick_bx a0) fun r6 => some r6) else (if (decide (a1.Kind = 2)) = true then none else (thn (if (decide (a1.Kind = 3)) = true then (decide (a1.Kind = 3)) else (if (decide (a1.Kind = 4)) = true then (decide (a1.Kind = 4)) else (if (decide (a1.Kind = 5)) = true then (decide (a1.Kind = 5)) else (decide (a1.Kind = 7))))) fun (y9 : Bool) => if y9 = true then none else (if (decide (a1.Kind = 6)) = true then none else (if (decide (a1.Kind = 8)) = true then none else (if (decide (a1.Kind = 9)) = true then none else (if (decide (a1.Kind = 10)) = true then none else (if (decide (a1.Kind = 11)) = true then none else (if (decide (a1.Kind = 12)) = true then none else (if (decide (a1.Kind = 13)) = true then none else (some a0)))))))))))
set_option maxRecDepth 20000 in
set_option maxHeartbeats 8000000 in
theorem S_world_World_Step_bx (v00 : Value) (a0 : Option world_World) (a1 : api_Step) (z01a : Value) (r : (Option world_World)) (h : world_World_Step_bx a0 a1 = some r) :
    SpecF Tryz.prog 25 [v00, Ag (api_Step.cs a1 z01a)] [bx world_World.bd world_World.fp v00 a0] [rows 1 z01a (a1.Data.map (fun x => [B8 x]))] (fun z : Unit => True) (fun z => Tu []) (fun z M => bx world_World.bd world_World.fp v00 r ::  M) (fun z M =>  M) := by
  refine .of func25 rfl ntmps25 rfl fun w0 D0 G0 => ?_
  unfold world_World_Step_bx at h
  refine .seq <| .reg rfl <| .opx (X.box (cs := (api_Step.cs a1 z01a)) .t1 rfl) rfl fun b1 => .nil <| .then <| .seq <| .seq <| .reg rfl <| .opp (P.mov .g1) rfl ?_
  obtain ⟨r2, hr3, h⟩ := bnd_eq h
  refine .opg (G.call call31 (.cons .t0 .nil) (S_world_World_is_bx v00 a0 r2 hr3) (.cons .k1 .nil) .nil (fun _ _ => rfl) (fun _ _ => rfl) rfl) rfl fun _ _ => .opp (P.not .t0) rfl <| .nil <| .then <| .cond .t0 (fun c4 => ?_) (fun c4 => ?_)
  · rw [if_pos c4] at h
    refine .ret <| .thr ?_
    cases h
    exact .finw () (.r0 rfl) trivial (Ls.of (.cons .k0 .nil)) .nil
  · rw [if_neg (ne_true_of_eq_false c4)] at h
    refine .skip <| .then <| .seq <| .reg rfl <| .opp (P.fa .g0 fa_70_0 rfl) rfl <| .op (V.ld (v := N a1.Kind) .t0 .k1 (.one isAgg3 rfl)) rfl <| .nil <| .then <| .block <| .seq <| .reg rfl <| .opp (P.bin .g0 .k .eql) rfl ?_
    refine .opp (P.asg .t0) rfl <| .nil <| .then <| .cond .t0 (fun c5 => ?_) (fun c5 => ?_)
    · rw [if_pos c5] at h
      refine .reg rfl <| .opp (P.mov .t2) rfl ?_
      obtain ⟨r6, hr7, h⟩ := bnd_eq h
      refine .opg (G.call call48 (.cons .t0 .nil) (S_world_World_tick_bx v00 a0 r6 hr7) (.cons .k0 .nil) .nil (fun _ _ => rfl) (fun _ _ => rfl) rfl) rfl fun _ _ => .drop .k0 <| .nil <| .inn ?_
      cases h
      exact .finwn () (.r0 rfl) trivial (Ls.of (.cons .k0 .nil)) .nil
    · rw [if_neg (ne_true_of_eq_false c5)] at h
      refine .seq <| .reg rfl <| .opp (P.bin .g0 .k .eql) rfl <| .opp (P.asg .t0) rfl <| .nil <| .then <| .cond .t0 (fun c8 => ?_) (fun c8 => ?_)
      · rw [if_pos c8] at h
        refine .reg rfl <| .opp (P.mov .t2) rfl <| .opp (P.fa .t2 fa_70_1 rfl) rfl <| .op (V.ld (v := N a1.A) .t0 .k1 (.one isAgg3 rfl)) rfl ?_
        cases h
      · rw [if_neg (ne_true_of_eq_false c8)] at h
        obtain ⟨y9, hj11, h⟩ := thn_eq h
        refine .cutx (γ := Unit) (E1 := fun z10 => [(19, Bo y9), (8, N a1.Kind), (3, pt b1 0), (0, v00)]) (L1 := fun z10 => [blk b1 70 (api_Step.cs a1 z01a), bx world_World.bd world_World.fp v00 a0]) (R1 := fun z10 => [rows 1 z01a (a1.Data.map (fun x => [B8 x]))]) ?_ (fun z10 => ?_)
        · clear h
          refine .seq <| .reg rfl <| .opp (P.bin .g0 .k .eql) rfl <| .opp (P.asg .t0) rfl <| .nil <| .then <| .cond .g0 (fun c12 => ?_) (fun c12 => ?_)
          · rw [if_pos c12] at hj11
            refine .skip ?_
            subst hj11
            exact .stj () (.cons Mm.m0 (.cons Mm.m1 (.cons Mm.m2 (.cons Mm.m3 .nil)))) (.of (.cons .k1 (.cons .k0 .nil))) (.cons Mm.m0 .nil)
          · rw [if_neg (ne_true_of_eq_false c12)] at hj11
            refine .seq <| .reg rfl <| .opp (P.bin .g1 .k .eql) rfl <| .drop .k1 <| .opp (P.asg .t0) rfl <| .nil <| .then <| .cond .g0 (fun c13 => ?_) (fun c13 => ?_)
            · rw [if_pos c13] at hj11
              refine .skip ?_
              subst hj11
              exact .stj () (.cons Mm.m0 (.cons Mm.m1 (.cons Mm.m2 (.cons Mm.m3 .nil)))) (.of (.cons .k1 (.cons .k0 .nil))) (.cons Mm.m0 .nil)
            · rw [if_neg (ne_true_of_eq_false c13)] at hj11
              refine .seq <| .reg rfl <| .opp (P.bin .g1 .k .eql) rfl <| .drop .k1 <| .opp (P.asg .t0) rfl <| .nil <| .then <| .cond .g0 (fun c14 => ?_) (fun c14 => ?_)
              · rw [if_pos c14] at hj11
                refine .skip ?_
                subst hj11
                exact .stj () (.cons Mm.m0 (.cons Mm.m1 (.cons Mm.m2 (.cons Mm.m3 .nil)))) (.of (.cons .k1 (.cons .k0 .nil))) (.cons Mm.m0 .nil)
              · rw [if_neg (ne_true_of_eq_false c14)] at hj11
                refine .reg rfl <| .opp (P.bin .g1 .k .eql) rfl <| .drop .k1 <| .opp (P.asg .t0) rfl <| .nil ?_
                subst hj11
                exact .stj () (.cons Mm.m0 (.cons Mm.m1 (.cons Mm.m2 (.cons Mm.m3 .nil)))) (.of (.cons .k1 (.cons .k0 .nil))) (.cons Mm.m0 .nil)
        · clear hj11
          refine .cond .t0 (fun c15 => ?_) (fun c15 => ?_)
          · rw [if_pos c15] at h
            refine .reg rfl <| .opp (P.mov .t2) rfl <| .op (V.ld (v := Ag (api_Step.cs a1 z01a)) .t2 .k0 (.agg isAgg70 sizeOf70 rfl rfl)) rfl ?_
            cases h
          · rw [if_neg (ne_true_of_eq_false c15)] at h
            refine .seq <| .reg rfl <| .opp (P.bin .g0 .k .eql) rfl <| .opp (P.asg .t0) rfl <| .nil <| .then <| .cond .t0 (fun c16 => ?_) (fun c16 => ?_)
            · rw [if_pos c16] at h
              refine .reg rfl <| .opp (P.mov .t2) rfl <| .opp (P.fa .g2 fa_70_2 rfl) rfl <| .op (V.ld (v := N a1.B) .t0 .k0 (.one isAgg3 rfl)) rfl <| .opp (P.fa .t3 fa_70_4 rfl) rfl <| .op (V.ld (v := z01a) .t0 .k0 (.one isAgg68 rfl)) rfl ?_
              cases h
            · rw [if_neg (ne_true_of_eq_false c16)] at h
              refine .seq <| .reg rfl <| .opp (P.bin .g0 .k .eql) rfl <| .opp (P.asg .t0) rfl <| .nil <| .then <| .cond .t0 (fun c17 => ?_) (fun c17 => ?_)
              · rw [if_pos c17] at h
                refine .reg rfl <| .opp (P.mov .t2) rfl <| .opp (P.fa .g2 fa_70_2 rfl) rfl <| .op (V.ld (v := N a1.B) .t0 .k0 (.one isAgg3 rfl)) rfl <| .opp (P.fa .t3 fa_70_1 rfl) rfl <| .op (V.ld (v := N a1.A) .t0 .k0 (.one isAgg3 rfl)) rfl ?_
                cases h
              · rw [if_neg (ne_true_of_eq_false c17)] at h
                refine .seq <| .reg rfl <| .opp (P.bin .g0 .k .eql) rfl <| .opp (P.asg .t0) rfl <| .nil <| .then <| .cond .t0 (fun c18 => ?_) (fun c18 => ?_)
                · rw [if_pos c18] at h
                  refine .reg rfl <| .opp (P.mov .t2) rfl <| .opp (P.fa .g2 fa_70_1 rfl) rfl <| .op (V.ld (v := N a1.A) .t0 .k0 (.one isAgg3 rfl)) rfl <| .opp (P.fa .g3 fa_70_2 rfl) rfl <| .op (V.ld (v := N a1.B) .t0 .k0 (.one isAgg3 rfl)) rfl <| .opp (P.fa .t4 fa_70_3 rfl) rfl <| .op (V.ld (v := N a1.C) .t0 .k0 (.one isAgg3 rfl)) rfl ?_
                  cases h
                · rw [if_neg (ne_true_of_eq_false c18)] at h
                  refine .seq <| .reg rfl <| .opp (P.bin .g0 .k .eql) rfl <| .opp (P.asg .t0) rfl <| .nil <| .then <| .cond .t0 (fun c19 => ?_) (fun c19 => ?_)
                  · rw [if_pos c19] at h
                    refine .reg rfl <| .opp (P.mov .t2) rfl <| .opp (P.fa .g2 fa_70_1 rfl) rfl <| .op (V.ld (v := N a1.A) .t0 .k0 (.one isAgg3 rfl)) rfl <| .opp (P.fa .t3 fa_70_2 rfl) rfl <| .op (V.ld (v := N a1.B) .t0 .k0 (.one isAgg3 rfl)) rfl ?_
                    cases h
                  · rw [if_neg (ne_true_of_eq_false c19)] at h
                    refine .seq <| .reg rfl <| .opp (P.bin .g0 .k .eql) rfl <| .opp (P.asg .t0) rfl <| .nil <| .then <| .cond .t0 (fun c20 => ?_) (fun c20 => ?_)
                    · rw [if_pos c20] at h
                      refine .reg rfl <| .opp (P.mov .t2) rfl <| .opp (P.fa .t2 fa_70_1 rfl) rfl <| .op (V.ld (v := N a1.A) .t0 .k0 (.one isAgg3 rfl)) rfl ?_
                      cases h
                    · rw [if_neg (ne_true_of_eq_false c20)] at h
                      refine .seq <| .reg rfl <| .opp (P.bin .g0 .k .eql) rfl <| .opp (P.asg .t0) rfl <| .nil <| .then <| .cond .t0 (fun c21 => ?_) (fun c21 => ?_)
                      · rw [if_pos c21] at h
                        refine .reg rfl <| .opp (P.mov .t2) rfl <| .opp (P.fa .g2 fa_70_1 rfl) rfl <| .op (V.ld (v := N a1.A) .t0 .k0 (.one isAgg3 rfl)) rfl <| .opp (P.fa .t3 fa_70_2 rfl) rfl <| .op (V.ld (v := N a1.B) .t0 .k0 (.one isAgg3 rfl)) rfl ?_
                        cases h
                      · rw [if_neg (ne_true_of_eq_false c21)] at h
                        refine .seq <| .reg rfl <| .opp (P.bin .t0 .k .eql) rfl <| .opp (P.asg .t0) rfl <| .nil <| .then <| .cond .t0 (fun c22 => ?_) (fun c22 => ?_)
                        · rw [if_pos c22] at h
                          refine .reg rfl <| .opp (P.mov .t1) rfl ?_
                          cases h
                        · rw [if_neg (ne_true_of_eq_false c22)] at h
                          refine .skip <| .inn ?_
                          cases h
                          exact .finwn () (.r0 rfl) trivial (Ls.of (.cons .k1 .nil)) .nil
attribute [irreducible] world_World_Step_bx
noncomputable def script_Run (a0 : world_Setup) (a1 : List api_Step) : Option ((Option world_World) × Int) :=
  if (decide ((a1.length : Int) > 512)) = true then (some (none, 3)) else (Option.bind (world_New a0) fun r4 => if (decide (r4.2 ≠ 0)) = true then (some (none, r4.2)) else (Option.bind (loopR (fun (i10 : Nat) (e13 : api_Step) (s11 : (Option world_World)) => Option.bind (world_World_Step_bx s11 e13) fun r31 => some (.nx r31)) 0 a1 r4.1) fun o14 => Lo.on o14 fun (s11 : (Option world_World)) => some (s11, 0)))
set_option maxRecDepth 20000 in
set_option maxHeartbeats 8000000 in
theorem S_script_Run (a0 : world_Setup) (v01 : Value) (a1 : List api_Step) (zl01 : List Value) (r : (Option world_World) × Int) (h : script_Run a0 a1 = some r) :
    SpecF Tryz.prog 29 [Ag (world_Setup.cs a0), v01] [] [rows 5 v01 (List.zipWith api_Step.cs a1 zl01), gz api_Step.g a1 zl01] (fun z : Value => True) (fun z => Tu [z, N r.2]) (fun z M => bx world_World.bd world_World.fp z r.1 ::  M) (fun z M =>  M) := by
  refine .of func29 rfl ntmps29 rfl fun w0 D0 G0 => ?_
  unfold script_Run at h
  refine .seq <| .reg rfl <| .opx (X.box (cs := (world_Setup.cs a0)) .t0 rfl) rfl fun b1 => .op0 (OpP.toV (P.asg .k)) rfl <| .op0 (OpP.toV (P.asg .k)) rfl <| .nil <| .then <| .seq <| .seq <| .reg rfl <| .opp (P.mov .g1) rfl <| .gzl Mm.m1 fun hz2 => ?_
  refine .op (V.lnr (n := a1.length) .t0 Mm.m0 (zip_len hz2) runUnderlying24) rfl <| .opp (P.bin .t0 .k .gtr) rfl <| .nil <| .then <| .cond .t0 (fun c3 => ?_) (fun c3 => ?_)
  · rw [if_pos c3] at h
    refine .seq <| .reg rfl <| .opp (P.asg .k) rfl <| .opp (P.asg .k) rfl <| .nil <| .then <| .ret <| .thr ?_
    cases h
    exact .bxn world_World.bd world_World.fp <| .finw nilp (.r2 rfl (.tmp .g1) (.tmp .g0)) trivial (Ls.of (.cons .k0 .nil)) .nil
  · rw [if_neg (ne_true_of_eq_false c3)] at h
    refine .skip <| .then <| .seq <| .reg rfl <| .op (V.ld (v := Ag (world_Setup.cs a0)) .t0 .k0 (.agg isAgg23 sizeOf23 rfl rfl)) rfl ?_
    obtain ⟨r4, hr5, h⟩ := bnd_eq h
    refine .opg (G.call call18 (.cons .t0 .nil) (S_world_New a0 r4 hr5) .nil .nil (fun _ _ => rfl) (fun _ _ => rfl) rfl) rfl fun u6 _ => .opp (P.mov .t0) rfl <| .opp (P.ext (v := u6) .g0 rfl) rfl <| .opp (P.ext (v := N r4.2) .t1 rfl) rfl <| .opp (P.asg .t1) rfl <| .opp (P.asg .t1) rfl <| .nil <| .then <| .seq <| .seq <| .reg rfl <| .opp (P.mov .g0) rfl ?_
    refine .opp (P.bin .t0 .k .neq) rfl <| .nil <| .then <| .cond .t0 (fun c7 => ?_) (fun c7 => ?_)
    · rw [if_pos c7] at h
      refine .seq <| .reg rfl <| .opp (P.mov .t0) rfl <| .opp (P.asg .k) rfl <| .opp (P.asg .t1) rfl <| .nil <| .then <| .ret <| .thr ?_
      cases h
      exact .bxn world_World.bd world_World.fp <| .finw nilp (.r2 rfl (.tmp .g1) (.tmp .g0)) trivial (Ls.of (.cons .k0 .nil)) .nil
    · rw [if_neg (ne_true_of_eq_false c7)] at h
      refine .skip <| .then <| .seq <| .seq <| .reg rfl <| .opp (P.mov .t2) rfl <| .gzl Mm.m1 fun hz8 => .op (V.lnr (n := a1.length) .g0 Mm.m0 (zip_len hz8) runUnderlying24) rfl <| .opp (P.mov .k) rfl <| .nil <| .then <| .block ?_
      obtain ⟨o14, ho15, h⟩ := bnd_eq h
      refine .gzl Mm.m1 fun hz24 => .lenq Mm.m0 fun hl21 => ?_
      rw [zip_len hz24] at hl21
      refine .loopR (γ := Unit) (fun i10 (s11 : (Option world_World)) z12 => [(23, N (i10 : Int)), (22, N (a1.length : Int)), (21, v01), (6, u6)]) (fun (s11 : (Option world_World)) z12 => [bx world_World.bd world_World.fp u6 s11]) (fun (s11 : (Option world_World)) z12 => [gz api_Step.g a1 zl01, rows 5 v01 (List.zipWith api_Step.cs a1 zl01)]) () ho15 (.cons Mm.m0 (.cons Mm.m1 (.cons Mm.m2 (.cons Mm.m4 .nil)))) (.of (.cons .k0 .nil)) (.cons Mm.m1 (.cons Mm.m0 .nil)) (fun i10 s11 z12 hi22 hr18 => ?_)
      refine .seq <| .reg rfl <| .opp (P.bin (v := Bo (decide ((i10 : Int) < (a1.length : Nat)))) .g0 .g1 .lss) rfl <| .nil <| .then <| .seq <| .cond .t0 (fun c23 => ?_) (fun c23 => ?_)
      · obtain ⟨e13, hx20⟩ := get_of c23
        obtain ⟨ct19, hc16, hn17⟩ := loopR_at hx20 hr18
        refine .gzx (D := api_Step.cs) (q := fun z_ => rows 1 z_ (e13.Data.map (fun x => [B8 x]))) Mm.m0 hx20 (fun _ => rfl) fun u9 _ hx25 => .skip <| .then <| .seq <| .block <| .seq <| .reg rfl <| .ixq Mm.m2 hx25 fun p26 q27 hq28 => .opp (P.ixi (i := i10) .g0 rfl .g2 hq28 runUnderlying24 sizeOf70) rfl <| .op (V.ldx0 (u := Ag (api_Step.cs e13 u9)) .t0 hq28 Mm.m2 hx25 (.agg isAgg70 sizeOf70 rfl rfl)) rfl <| .opx (X.alc (cs := (api_Step.cs ⟨0, 0, 0, 0, []⟩ nilSl)) zeroValue70 rfl) rfl fun b29 => .oner Mm.m0 fun ho30 => ?_
        refine .opg (G.str .t1 .g0 .k0 (.mk (cs' := (api_Step.cs e13 u9)) sizeOf70 rfl (onez_70 _ ho30) rfl rfl)) rfl fun _ _ => .nil <| .then <| .reg rfl <| .opp (P.mov .g4) rfl <| .op (V.ld (v := Ag (api_Step.cs e13 u9)) .t1 .k0 (.agg isAgg70 sizeOf70 rfl rfl)) rfl ?_
        obtain ⟨r31, hr32, hc16⟩ := bnd_eq hc16
        refine .opg (G.call call25 (.cons .t1 (.cons .t0 .nil)) (S_world_World_Step_bx u6 s11 e13 u9 r31 hr32) (.cons .k1 .nil) (.cons Mm.m0 .nil) (fun _ _ => rfl) (fun _ _ => rfl) rfl) rfl fun _ _ => .drop .k0 <| .nil <| .inn <| .then <| .reg rfl <| .opp (P.bin .g0 .k (.addc (inc_ok (lt_of_get hx20) hl21))) rfl <| .drop .k1 <| .opp (P.mov .t0) rfl <| .nil ?_
        cases hc16
        exact .rdR r31 () hn17 (lt_of_get hx20) (.cons Mm.m0 (.cons Mm.m1 (.cons Mm.m2 (.cons Mm.m3 .nil)))) (.of (.cons .k0 .nil)) (.cons Mm.m1 (.cons Mm.m2 .nil))
      · obtain rfl := loopR_end (le_of_not c23) hr18
        have h := dn_on h
        refine .exit <| .thx <| .thx <| .inb <| .then <| .seq <| .reg rfl <| .opp (P.mov .t3) rfl <| .opp (P.asg .t0) rfl <| .opp (P.asg .k) rfl <| .nil <| .then ?_
        refine .ret ?_
        cases h
        exact .finw u6 (.r2 rfl (.tmp .g1) (.tmp .g0)) trivial (Ls.of (.cons .k0 .nil)) .nil
attribute [irreducible] script_Run
noncomputable def narrowslaw25_ScriptRefuses (a0 : api_Step) (a1 : Int) (a2 : Int) : Option (Bool) :=
  Option.bind (narrowslaw25_alive) fun r2 => if (!r2) = true then (some false) else (thn (if (decide (a0.Kind < 0)) = true then true else (decide (a0.Kind > 255))) fun (y5 : Bool) => thn (if y5 = true then true else (if (decide (a0.A < (-32768))) = true then true else (decide (a0.A > 32767)))) fun (y10 : Bool) => thn (if y10 = true then true else (if (decide (a0.B < (-32768))) = true then true else (decide (a0.B > 32767)))) fun (y21 : Bool) => thn (if y21 = true then true else (if (decide (a0.C < (-32768))) = true then true else (decide (a0.C > 32767)))) fun (y32 : Bool) => Option.bind (script_Put ([a0] : List api_Step)) fun r44 => if y32 = true then (thn (if (decide (r44.2 = 4)) = true then (decide ((r44.1.length : Int) = 0)) else false) fun (y48 : Bool) => some y48) else (if (decide ((a0.Data.length : Int) > 1024)) = true then (thn (if (decide (r44.2 = 5)) = true then (decide ((r44.1.length : Int) = 0)) else false) fun (y53 : Bool) => some y53) else (grd (0 ≤ (IntKind.i64.wrap (511 + (Int.tmod (IntKind.i64.wrap ((Int.tmod a1 3) + 3)) 3))) ∧ (IntKind.i64.wrap (511 + (Int.tmod (IntKind.i64.wrap ((Int.tmod a1 3) + 3)) 3))) * 56 ≤ 140737488355328) <| Option.bind (script_Put (List.replicate (IntKind.i64.wrap (511 + (Int.tmod (IntKind.i64.wrap ((Int.tmod a1 3) + 3)) 3))).toNat (⟨0, 0, 0, 0, []⟩ : api_Step))) fun r59 => grd (0 ≤ (IntKind.i64.wrap (511 + (Int.tmod (IntKind.i64.wrap ((Int.tmod a1 3) + 3)) 3))) ∧ (IntKind.i64.wrap (511 + (Int.tmod (IntKind.i64.wrap ((Int.tmod a1 3) + 3)) 3))) * 56 ≤ 140737488355328) <| Option.bind (script_Run (⟨1, 0, 31, 0⟩ : world_Setup) (List.replicate (IntKind.i64.wrap (511 + (Int.tmod (IntKind.i64.wrap ((Int.tmod a1 3) + 3)) 3))).toNat (⟨0, 0, 0, 0, []⟩ : api_Step))) fun r64 => grd ((r44.1.length : Int) ≠ 0) <| grd ((r44.1.length : Int) ≠ 0) <| grd (okS r44.1.length none (some (Int.tmod (IntKind.i64.wrap ((Int.tmod a2 (r44.1.length : Int)) + (r44.1.length : Int))) (r44.1.length : Int))) none) <| Option.bind (script_Read (slc r44.1 0 (Int.tmod (IntKind.i64.wrap ((Int.tmod a2 (r44.1.length : Int)) + (r44.1.length : Int))) (r44.1.length : Int)).toNat)) fun r73 => thn (if (decide (r44.2 = 0)) = true then (if (decide ((r44.1.length : Int) = (IntKind.i64.wrap (9 + (a0.Data.length : Int))))) = true then (if (decide ((decide (r59.2 = 3)) = (decide ((IntKind.i64.wrap (511 + (Int.tmod (IntKind.i64.wrap ((Int.tmod a1 3) + 3)) 3))) > 512)))) = true then (if (decide ((decide (r64.2 = 3)) = (decide ((IntKind.i64.wrap (511 + (Int.tmod (IntKind.i64.wrap ((Int.tmod a1 3) + 3)) 3))) > 512)))) = true then (decide ((decide (r73.2 = 0)) = (decide ((Int.tmod (IntKind.i64.wrap ((Int.tmod a2 (r44.1.length : Int)) + (r44.1.length : Int))) (r44.1.length : Int)) = 0)))) else false) else false) else false) else false) fun (y77 : Bool) => some y77)))
set_option maxRecDepth 20000 in
set_option maxHeartbeats 8000000 in
theorem S_narrowslaw25_ScriptRefuses (a0 : api_Step) (z00a : Value) (a1 : Int) (a2 : Int) (r : Bool) (h : narrowslaw25_ScriptRefuses a0 a1 a2 = some r) :
    SpecF Tryz.prog 6 [Ag (api_Step.cs a0 z00a), N a1, N a2] [] [rows 1 z00a (a0.Data.map (fun x => [B8 x]))] (fun z : Unit => True) (fun z => Bo r) (fun z M =>  M) (fun z M =>  M) := by
  refine .of func6 rfl ntmps6 rfl fun w0 D0 G0 => ?_
  unfold narrowslaw25_ScriptRefuses at h
  refine .seq <| .reg rfl <| .opx (X.box (cs := (api_Step.cs a0 z00a)) .t0 rfl) rfl fun b1 => .op0 (OpP.toV (P.asg .k)) rfl <| .nil <| .then <| .seq <| .seq <| .reg rfl ?_
  obtain ⟨r2, hr3, h⟩ := bnd_eq h
  refine .opg (G.call call27 .nil (S_narrowslaw25_alive  r2 hr3) .nil .nil (fun _ _ => rfl) (fun _ _ => rfl) rfl) rfl fun _ _ => .opp (P.not .t0) rfl <| .nil <| .then <| .cond .t0 (fun c4 => ?_) (fun c4 => ?_)
  · rw [if_pos c4] at h
    refine .seq <| .reg rfl <| .opp (P.asg .k) rfl <| .nil <| .then <| .ret <| .thr ?_
    cases h
    exact .finw () (.r1 rfl (.tmp .g0)) trivial (Ls.of .nil) .nil
  · rw [if_neg (ne_true_of_eq_false c4)] at h
    refine .skip <| .then ?_
    obtain ⟨y5, hj7, h⟩ := thn_eq h
    refine .cutx (γ := Unit) (E1 := fun z6 => [(7, Bo y5), (3, pt b1 0), (1, N a1), (2, N a2)]) (L1 := fun z6 => [blk b1 70 (api_Step.cs a0 z00a)]) (R1 := fun z6 => [rows 1 z00a (a0.Data.map (fun x => [B8 x]))]) ?_ (fun z6 => ?_)
    · clear h
      refine .reg rfl <| .opp (P.fa .g0 fa_70_0 rfl) rfl <| .op (V.ld (v := N a0.Kind) .t0 .k0 (.one isAgg3 rfl)) rfl <| .opp (P.bin .t0 .k .lss) rfl <| .opp (P.mov .t0) rfl <| .split .k0 (fun c8 => ?_) (fun c8 => ?_)
      · rw [if_pos c8] at hj7
        refine .gno rfl .g0 rfl rfl <| .gno rfl .g0 rfl rfl <| .gno rfl .g0 rfl rfl <| .opp (P.pickT .t0 .k) rfl <| .opp (P.asg .t0) rfl <| .nil ?_
        subst hj7
        exact .stj () (.cons Mm.m0 (.cons Mm.m1 (.cons Mm.m2 (.cons Mm.m3 .nil)))) (.of (.cons .k0 .nil)) (.cons Mm.m0 .nil)
      · rw [if_neg (ne_true_of_eq_false c8)] at hj7
        refine .gyes rfl .g0 <| .opp (P.fa .g1 fa_70_0 rfl) rfl <| .gyes rfl .g1 <| .op (V.ld (v := N a0.Kind) .t0 .k0 (.one isAgg3 rfl)) rfl <| .gyes rfl .g1 <| .opp (P.bin .t0 .k .gtr) rfl <| .opp (P.pickF .t1 .t0) rfl <| .opp (P.asg .t0) rfl <| .nil ?_
        subst hj7
        exact .stj () (.cons Mm.m0 (.cons Mm.m1 (.cons Mm.m2 (.cons Mm.m3 .nil)))) (.of (.cons .k0 .nil)) (.cons Mm.m0 .nil)
    · clear hj7
      refine .seq <| .reg rfl <| .opp (P.fa .g1 fa_70_1 rfl) rfl <| .op (V.ld (v := N a0.A) .t0 .k0 (.one isAgg3 rfl)) rfl <| .opp (P.fa .g2 fa_70_2 rfl) rfl <| .op (V.ld (v := N a0.B) .t0 .k0 (.one isAgg3 rfl)) rfl <| .opp (P.fa .g3 fa_70_3 rfl) rfl <| .op (V.ld (v := N a0.C) .t0 .k0 (.one isAgg3 rfl)) rfl <| .opg (G.bsln (xs := [[N a0.A], [N a0.B], [N a0.C]]) (.cons .t2 (.cons .t1 (.cons .t0 .nil))) runUnderlying89 sizeOf3 zeroValue3 (by kernel_rfl) rfl rfl rfl rfl rfl) rfl fun u9 _ => .opp (P.asg .t0) rfl <| .nil <| .then ?_
      refine .seq <| .seq <| .reg rfl <| .opp (P.asg .k) rfl <| .nil <| .then <| .block <| .rounds 4 <| .rd <| .seq <| .seq <| .reg rfl ?_
      refine .opp (P.mov .g0) rfl <| .opp (P.bin (v := Bo true) .t0 .k (BinV.lss.boolc (by decide))) rfl <| .nil <| .then <| .condT .t0 <| .skip <| .then ?_
      obtain ⟨y10, hj12, h⟩ := thn_eq h
      refine .cutx (γ := Unit) (E1 := fun z11 => [(7, Bo y10), (9, N 0), (8, u9), (3, pt b1 0), (1, N a1), (2, N a2)]) (L1 := fun z11 => [blk b1 70 (api_Step.cs a0 z00a), lst 3 1 u9 [[N a0.A], [N a0.B], [N a0.C]]]) (R1 := fun z11 => [rows 1 z00a (a0.Data.map (fun x => [B8 x]))]) ?_ (fun z11 => ?_)
      · clear h
        refine .block <| .reg rfl <| .opp (P.mov .g2) rfl <| .opp (P.mov .t0) rfl <| .split .k0 (fun c13 => ?_) (fun c13 => ?_)
        · rw [if_pos c13] at hj12
          refine .gno rfl .g0 rfl rfl <| .gno rfl .g0 rfl rfl <| .gno rfl .g0 rfl rfl <| .gno rfl .g0 rfl rfl <| .gno rfl .g0 rfl rfl <| .opp (P.pickT .t0 .k) rfl <| .opp (P.mov .t0) rfl <| .gno rfl .g0 rfl rfl <| .gno rfl .g0 rfl rfl <| .gno rfl .g0 rfl rfl <| .gno rfl .g0 rfl rfl <| .gno rfl .g0 rfl rfl ?_
          refine .opp (P.pickT .t0 .k) rfl <| .drop .k3 <| .opp (P.asg .t0) rfl <| .nil <| .inn ?_
          subst hj12
          exact .stj () (.cons Mm.m0 (.cons Mm.m1 (.cons Mm.m2 (.cons Mm.m3 (.cons Mm.m4 (.cons Mm.m5 .nil)))))) (.of (.cons .k1 (.cons .k0 .nil))) (.cons Mm.m0 .nil)
        · rw [if_neg (ne_true_of_eq_false c13)] at hj12
          refine .gyes rfl .g0 <| .opp (P.mov .g2) rfl <| .gyes rfl .g1 <| .opp (P.mov .g2) rfl <| .gyes rfl .g2 <| .ixql .k0 (show [[N a0.A], [N a0.B], [N a0.C]][0]? = some [N a0.A] from rfl) fun p14 q15 hq16 => .opp (P.ixi (i := 0) .t0 rfl .t0 hq16 runUnderlying89 sizeOf3) rfl <| .gyes rfl .g1 <| .op (V.ldxl0 (u := N a0.A) .t0 hq16 .k0 (show [[N a0.A], [N a0.B], [N a0.C]][0]? = some [N a0.A] from rfl) (.one isAgg3 rfl)) rfl <| .gyes rfl .g1 <| .opp (P.bin .t0 .k .lss) rfl <| .opp (P.pickF .t1 .t0) rfl ?_
          refine .opp (P.mov .t0) rfl <| .split .k0 (fun c17 => ?_) (fun c17 => ?_)
          · rw [if_pos c17] at hj12
            refine .gno rfl .g0 rfl rfl <| .gno rfl .g0 rfl rfl <| .gno rfl .g0 rfl rfl <| .gno rfl .g0 rfl rfl <| .gno rfl .g0 rfl rfl <| .opp (P.pickT .t0 .k) rfl <| .drop .k3 <| .opp (P.asg .t0) rfl <| .nil <| .inn ?_
            subst hj12
            exact .stj () (.cons Mm.m0 (.cons Mm.m1 (.cons Mm.m2 (.cons Mm.m3 (.cons Mm.m4 (.cons Mm.m5 .nil)))))) (.of (.cons .k1 (.cons .k0 .nil))) (.cons Mm.m0 .nil)
          · rw [if_neg (ne_true_of_eq_false c17)] at hj12
            refine .gyes rfl .g0 <| .opp (P.mov .g2) rfl <| .gyes rfl .g1 <| .opp (P.mov .g2) rfl <| .gyes rfl .g2 <| .ixql .k0 (show [[N a0.A], [N a0.B], [N a0.C]][0]? = some [N a0.A] from rfl) fun p18 q19 hq20 => .opp (P.ixi (i := 0) .t0 rfl .t0 hq20 runUnderlying89 sizeOf3) rfl <| .gyes rfl .g1 <| .op (V.ldxl0 (u := N a0.A) .t0 hq20 .k0 (show [[N a0.A], [N a0.B], [N a0.C]][0]? = some [N a0.A] from rfl) (.one isAgg3 rfl)) rfl <| .gyes rfl .g1 <| .opp (P.bin .t0 .k .gtr) rfl <| .opp (P.pickF .t1 .t0) rfl ?_
            refine .drop .k3 <| .opp (P.asg .t0) rfl <| .nil <| .inn ?_
            subst hj12
            exact .stj () (.cons Mm.m0 (.cons Mm.m1 (.cons Mm.m2 (.cons Mm.m3 (.cons Mm.m4 (.cons Mm.m5 .nil)))))) (.of (.cons .k1 (.cons .k0 .nil))) (.cons Mm.m0 .nil)
      · clear hj12
        refine .reg rfl <| .opp (P.mov .g1) rfl <| .opp (P.bin (v := N 1) .t0 .k (.addc (by decide))) rfl <| .drop .k2 <| .opp (P.asg .t0) rfl <| .nil <| .then <| .rd <| .seq <| .seq <| .reg rfl <| .opp (P.mov .g0) rfl ?_
        refine .opp (P.bin (v := Bo true) .t0 .k (BinV.lss.boolc (by decide))) rfl <| .nil <| .then <| .condT .t0 <| .skip <| .then ?_
        obtain ⟨y21, hj23, h⟩ := thn_eq h
        refine .cutx (γ := Unit) (E1 := fun z22 => [(7, Bo y21), (9, N 1), (8, u9), (3, pt b1 0), (1, N a1), (2, N a2)]) (L1 := fun z22 => [blk b1 70 (api_Step.cs a0 z00a), lst 3 1 u9 [[N a0.A], [N a0.B], [N a0.C]]]) (R1 := fun z22 => [rows 1 z00a (a0.Data.map (fun x => [B8 x]))]) ?_ (fun z22 => ?_)
        · clear h
          refine .block <| .reg rfl <| .opp (P.mov .g1) rfl <| .opp (P.mov .t0) rfl <| .split .k0 (fun c24 => ?_) (fun c24 => ?_)
          · rw [if_pos c24] at hj23
            refine .gno rfl .g0 rfl rfl <| .gno rfl .g0 rfl rfl <| .gno rfl .g0 rfl rfl <| .gno rfl .g0 rfl rfl <| .gno rfl .g0 rfl rfl <| .opp (P.pickT .t0 .k) rfl <| .opp (P.mov .t0) rfl <| .gno rfl .g0 rfl rfl <| .gno rfl .g0 rfl rfl <| .gno rfl .g0 rfl rfl <| .gno rfl .g0 rfl rfl <| .gno rfl .g0 rfl rfl ?_
            refine .opp (P.pickT .t0 .k) rfl <| .drop .k2 <| .opp (P.asg .t0) rfl <| .nil <| .inn ?_
            subst hj23
            exact .stj () (.cons Mm.m0 (.cons Mm.m1 (.cons Mm.m2 (.cons Mm.m3 (.cons Mm.m4 (.cons Mm.m5 .nil)))))) (.of (.cons .k0 (.cons .k0 .nil))) (.cons Mm.m0 .nil)
          · rw [if_neg (ne_true_of_eq_false c24)] at hj23
            refine .gyes rfl .g0 <| .opp (P.mov .g3) rfl <| .gyes rfl .g1 <| .opp (P.mov .g2) rfl <| .gyes rfl .g2 <| .ixql .k1 (show [[N a0.A], [N a0.B], [N a0.C]][1]? = some [N a0.B] from rfl) fun p25 q26 hq27 => .opp (P.ixi (i := 1) .t0 rfl .t0 hq27 runUnderlying89 sizeOf3) rfl <| .gyes rfl .g1 <| .op (V.ldxl0 (u := N a0.B) .t0 hq27 .k1 (show [[N a0.A], [N a0.B], [N a0.C]][1]? = some [N a0.B] from rfl) (.one isAgg3 rfl)) rfl <| .gyes rfl .g1 <| .opp (P.bin .t0 .k .lss) rfl <| .opp (P.pickF .t1 .t0) rfl ?_
            refine .opp (P.mov .t0) rfl <| .split .k0 (fun c28 => ?_) (fun c28 => ?_)
            · rw [if_pos c28] at hj23
              refine .gno rfl .g0 rfl rfl <| .gno rfl .g0 rfl rfl <| .gno rfl .g0 rfl rfl <| .gno rfl .g0 rfl rfl <| .gno rfl .g0 rfl rfl <| .opp (P.pickT .t0 .k) rfl <| .drop .k2 <| .opp (P.asg .t0) rfl <| .nil <| .inn ?_
              subst hj23
              exact .stj () (.cons Mm.m0 (.cons Mm.m1 (.cons Mm.m2 (.cons Mm.m3 (.cons Mm.m4 (.cons Mm.m5 .nil)))))) (.of (.cons .k0 (.cons .k0 .nil))) (.cons Mm.m0 .nil)
            · rw [if_neg (ne_true_of_eq_false c28)] at hj23
              refine .gyes rfl .g0 <| .opp (P.mov .g3) rfl <| .gyes rfl .g1 <| .opp (P.mov .g2) rfl <| .gyes rfl .g2 <| .ixql .k1 (show [[N a0.A], [N a0.B], [N a0.C]][1]? = some [N a0.B] from rfl) fun p29 q30 hq31 => .opp (P.ixi (i := 1) .t0 rfl .t0 hq31 runUnderlying89 sizeOf3) rfl <| .gyes rfl .g1 <| .op (V.ldxl0 (u := N a0.B) .t0 hq31 .k1 (show [[N a0.A], [N a0.B], [N a0.C]][1]? = some [N a0.B] from rfl) (.one isAgg3 rfl)) rfl <| .gyes rfl .g1 <| .opp (P.bin .t0 .k .gtr) rfl <| .opp (P.pickF .t1 .t0) rfl ?_
              refine .drop .k2 <| .opp (P.asg .t0) rfl <| .nil <| .inn ?_
              subst hj23
              exact .stj () (.cons Mm.m0 (.cons Mm.m1 (.cons Mm.m2 (.cons Mm.m3 (.cons Mm.m4 (.cons Mm.m5 .nil)))))) (.of (.cons .k0 (.cons .k0 .nil))) (.cons Mm.m0 .nil)
        · clear hj23
          refine .reg rfl <| .opp (P.mov .g1) rfl <| .opp (P.bin (v := N 2) .t0 .k (.addc (by decide))) rfl <| .drop .k2 <| .opp (P.asg .t0) rfl <| .nil <| .then <| .rd <| .seq <| .seq <| .reg rfl <| .opp (P.mov .g0) rfl ?_
          refine .opp (P.bin (v := Bo true) .t0 .k (BinV.lss.boolc (by decide))) rfl <| .nil <| .then <| .condT .t0 <| .skip <| .then ?_
          obtain ⟨y32, hj34, h⟩ := thn_eq h
          refine .cutx (γ := Unit) (E1 := fun z33 => [(7, Bo y32), (9, N 2), (8, u9), (3, pt b1 0), (1, N a1), (2, N a2)]) (L1 := fun z33 => [blk b1 70 (api_Step.cs a0 z00a), lst 3 1 u9 [[N a0.A], [N a0.B], [N a0.C]]]) (R1 := fun z33 => [rows 1 z00a (a0.Data.map (fun x => [B8 x]))]) ?_ (fun z33 => ?_)
          · clear h
            refine .block <| .reg rfl <| .opp (P.mov .g1) rfl <| .opp (P.mov .t0) rfl <| .split .k0 (fun c35 => ?_) (fun c35 => ?_)
            · rw [if_pos c35] at hj34
              refine .gno rfl .g0 rfl rfl <| .gno rfl .g0 rfl rfl <| .gno rfl .g0 rfl rfl <| .gno rfl .g0 rfl rfl <| .gno rfl .g0 rfl rfl <| .opp (P.pickT .t0 .k) rfl <| .opp (P.mov .t0) rfl <| .gno rfl .g0 rfl rfl <| .gno rfl .g0 rfl rfl <| .gno rfl .g0 rfl rfl <| .gno rfl .g0 rfl rfl <| .gno rfl .g0 rfl rfl ?_
              refine .opp (P.pickT .t0 .k) rfl <| .drop .k2 <| .opp (P.asg .t0) rfl <| .nil <| .inn ?_
              subst hj34
              exact .stj () (.cons Mm.m0 (.cons Mm.m1 (.cons Mm.m2 (.cons Mm.m3 (.cons Mm.m4 (.cons Mm.m5 .nil)))))) (.of (.cons .k0 (.cons .k0 .nil))) (.cons Mm.m0 .nil)
            · rw [if_neg (ne_true_of_eq_false c35)] at hj34
              refine .gyes rfl .g0 <| .opp (P.mov .g3) rfl <| .gyes rfl .g1 <| .opp (P.mov .g2) rfl <| .gyes rfl .g2 <| .ixql .k1 (show [[N a0.A], [N a0.B], [N a0.C]][2]? = some [N a0.C] from rfl) fun p36 q37 hq38 => .opp (P.ixi (i := 2) .t0 rfl .t0 hq38 runUnderlying89 sizeOf3) rfl <| .gyes rfl .g1 <| .op (V.ldxl0 (u := N a0.C) .t0 hq38 .k1 (show [[N a0.A], [N a0.B], [N a0.C]][2]? = some [N a0.C] from rfl) (.one isAgg3 rfl)) rfl <| .gyes rfl .g1 <| .opp (P.bin .t0 .k .lss) rfl <| .opp (P.pickF .t1 .t0) rfl ?_
              refine .opp (P.mov .t0) rfl <| .split .k0 (fun c39 => ?_) (fun c39 => ?_)
              · rw [if_pos c39] at hj34
                refine .gno rfl .g0 rfl rfl <| .gno rfl .g0 rfl rfl <| .gno rfl .g0 rfl rfl <| .gno rfl .g0 rfl rfl <| .gno rfl .g0 rfl rfl <| .opp (P.pickT .t0 .k) rfl <| .drop .k2 <| .opp (P.asg .t0) rfl <| .nil <| .inn ?_
                subst hj34
                exact .stj () (.cons Mm.m0 (.cons Mm.m1 (.cons Mm.m2 (.cons Mm.m3 (.cons Mm.m4 (.cons Mm.m5 .nil)))))) (.of (.cons .k0 (.cons .k0 .nil))) (.cons Mm.m0 .nil)
              · rw [if_neg (ne_true_of_eq_false c39)] at hj34
                refine .gyes rfl .g0 <| .opp (P.mov .g3) rfl <| .gyes rfl .g1 <| .opp (P.mov .g2) rfl <| .gyes rfl .g2 <| .ixql .k1 (show [[N a0.A], [N a0.B], [N a0.C]][2]? = some [N a0.C] from rfl) fun p40 q41 hq42 => .opp (P.ixi (i := 2) .t0 rfl .t0 hq42 runUnderlying89 sizeOf3) rfl <| .gyes rfl .g1 <| .op (V.ldxl0 (u := N a0.C) .t0 hq42 .k1 (show [[N a0.A], [N a0.B], [N a0.C]][2]? = some [N a0.C] from rfl) (.one isAgg3 rfl)) rfl <| .gyes rfl .g1 <| .opp (P.bin .t0 .k .gtr) rfl <| .opp (P.pickF .t1 .t0) rfl ?_
                refine .drop .k2 <| .opp (P.asg .t0) rfl <| .nil <| .inn ?_
                subst hj34
                exact .stj () (.cons Mm.m0 (.cons Mm.m1 (.cons Mm.m2 (.cons Mm.m3 (.cons Mm.m4 (.cons Mm.m5 .nil)))))) (.of (.cons .k0 (.cons .k0 .nil))) (.cons Mm.m0 .nil)
          · clear hj34
            refine .reg rfl <| .opp (P.mov .g1) rfl <| .opp (P.bin (v := N 3) .t0 .k (.addc (by decide))) rfl <| .drop .k2 <| .opp (P.asg .t0) rfl <| .nil <| .then <| .rd <| .seq <| .seq <| .reg rfl <| .opp (P.mov .g0) rfl ?_
            refine .opp (P.bin (v := Bo false) .t0 .k (BinV.lss.boolc (by decide))) rfl <| .nil <| .then <| .condF .t0 <| .exit <| .thx <| .thx <| .inb <| .then <| .seq <| .reg rfl <| .op (V.ld (v := Ag (api_Step.cs a0 z00a)) .g3 .k0 (.agg isAgg70 sizeOf70 rfl rfl)) rfl ?_
            refine .opg (G.bsl (cs := (api_Step.cs a0 z00a)) .t0 runUnderlying24 sizeOf70 zeroValue70 rfl rfl rfl rfl rfl) rfl fun u43 _ => .frz .k0 <| .gzn (G := api_Step.g) <| .gzc (x := a0) (z := z00a) Mm.m1 rfl ?_
            obtain ⟨r44, hr45, h⟩ := bnd_eq h
            refine .opg (G.call call28 (.cons .t0 .nil) (S_script_Put u43 ([a0] : List api_Step) ([z00a]) r44 hr45) .nil (.cons Mm.m1 (.cons Mm.m0 .nil)) (fun _ _ => rfl) (fun _ _ => rfl) rfl) rfl fun u46 _ => .opp (P.mov .t0) rfl <| .opp (P.ext (v := u46) .g0 rfl) rfl <| .opp (P.ext (v := N r44.2) .t1 rfl) rfl <| .opp (P.asg .t1) rfl <| .opp (P.asg .t1) rfl <| .nil <| .then <| .seq <| .block <| .seq <| .reg rfl ?_
            refine .opp (P.mov .t3) rfl <| .opp (P.asg .t0) rfl <| .nil <| .then <| .cond .t0 (fun c47 => ?_) (fun c47 => ?_)
            · rw [if_pos c47] at h
              obtain ⟨y48, hj50, h⟩ := thn_eq h
              refine .cutx (γ := Unit) (E1 := fun z49 => [(6, Bo y48)]) (L1 := fun z49 => []) (R1 := fun z49 => [rows 1 z00a (a0.Data.map (fun x => [B8 x]))]) ?_ (fun z49 => ?_)
              · clear h
                refine .reg rfl <| .opp (P.mov .t0) rfl <| .opp (P.bin .t0 .k .eql) rfl <| .opp (P.mov .t0) rfl <| .split .k0 (fun c51 => ?_) (fun c51 => ?_)
                · rw [if_pos c51] at hj50
                  refine .gyes rfl .g0 <| .opp (P.mov .t1) rfl <| .gyes rfl .g1 <| .op (V.lnl (n := r44.1.length) .t0 .k0 map_len runUnderlying68) rfl <| .gyes rfl .g1 <| .opp (P.bin .t0 .k .eql) rfl <| .opp (P.pickT .t1 .t0) rfl <| .opp (P.asg .t0) rfl <| .nil ?_
                  subst hj50
                  exact .stj () (.cons Mm.m0 .nil) (.of .nil) (.cons Mm.m2 .nil)
                · rw [if_neg (ne_true_of_eq_false c51)] at hj50
                  refine .gno rfl .g0 rfl rfl <| .gno rfl .g0 rfl rfl <| .gno rfl .g0 rfl rfl <| .opp (P.pickF .t0 .k) rfl <| .opp (P.asg .t0) rfl <| .nil ?_
                  subst hj50
                  exact .stj () (.cons Mm.m0 .nil) (.of .nil) (.cons Mm.m2 .nil)
              · clear hj50
                refine .ret <| .inr <| .thr ?_
                cases h
                exact .finw () (.r1 rfl (.tmp .g0)) trivial (Ls.of .nil) .nil
            · rw [if_neg (ne_true_of_eq_false c47)] at h
              refine .seq <| .reg rfl <| .opp (P.fa .g4 fa_70_4 rfl) rfl <| .op (V.ld (v := z00a) .t0 .k1 (.one isAgg68 rfl)) rfl <| .op (V.lnr (n := a0.Data.length) .t0 Mm.m2 map_len runUnderlying68) rfl <| .opp (P.bin .t0 .k .gtr) rfl <| .opp (P.asg .t0) rfl <| .nil <| .then <| .cond .t0 (fun c52 => ?_) (fun c52 => ?_)
              · rw [if_pos c52] at h
                obtain ⟨y53, hj55, h⟩ := thn_eq h
                refine .cutx (γ := Unit) (E1 := fun z54 => [(6, Bo y53)]) (L1 := fun z54 => []) (R1 := fun z54 => [rows 1 z00a (a0.Data.map (fun x => [B8 x]))]) ?_ (fun z54 => ?_)
                · clear h
                  refine .reg rfl <| .opp (P.mov .t0) rfl <| .opp (P.bin .t0 .k .eql) rfl <| .opp (P.mov .t0) rfl <| .split .k0 (fun c56 => ?_) (fun c56 => ?_)
                  · rw [if_pos c56] at hj55
                    refine .gyes rfl .g0 <| .opp (P.mov .t1) rfl <| .gyes rfl .g1 <| .op (V.lnl (n := r44.1.length) .t0 .k0 map_len runUnderlying68) rfl <| .gyes rfl .g1 <| .opp (P.bin .t0 .k .eql) rfl <| .opp (P.pickT .t1 .t0) rfl <| .opp (P.asg .t0) rfl <| .nil ?_
                    subst hj55
                    exact .stj () (.cons Mm.m0 .nil) (.of .nil) (.cons Mm.m2 .nil)
                  · rw [if_neg (ne_true_of_eq_false c56)] at hj55
                    refine .gno rfl .g0 rfl rfl <| .gno rfl .g0 rfl rfl <| .gno rfl .g0 rfl rfl <| .opp (P.pickF .t0 .k) rfl <| .opp (P.asg .t0) rfl <| .nil ?_
                    subst hj55
                    exact .stj () (.cons Mm.m0 .nil) (.of .nil) (.cons Mm.m2 .nil)
                · clear hj55
                  refine .ret <| .inr <| .thr ?_
                  cases h
                  exact .finw () (.r1 rfl (.tmp .g0)) trivial (Ls.of .nil) .nil
              · rw [if_neg (ne_true_of_eq_false c52)] at h
                refine .skip <| .inn <| .then <| .seq <| .reg rfl <| .opp (P.mov .g5) rfl <| .opp (P.bin .t0 .k (.rem (by decide))) rfl <| .opp (P.bin .t0 .k .add) rfl <| .opp (P.bin .t0 .k (.rem (by decide))) rfl <| .opp (P.bin .k .t0 .add) rfl <| .drop .k6 <| .opp (P.asg .t0) rfl ?_
                refine .nil <| .then <| .seq <| .reg rfl <| .opp (P.mov .g0) rfl ?_
                obtain ⟨hb58, h⟩ := grd_eq h
                refine .opg (G.mks (by_ := 56) (cs := (api_Step.cs ⟨0, 0, 0, 0, []⟩ nilSl)) .g0 .t0 runUnderlying24 sizeOf70 typeInfo70 rfl zeroValue70 rfl rfl rfl rfl hb58.1 hb58.2 rfl) rfl fun u57 _ => .conseq .k0 (q := lst 70 5 u57 (List.zipWith api_Step.cs (List.replicate (IntKind.i64.wrap (511 + (Int.tmod (IntKind.i64.wrap ((Int.tmod a1 3) + 3)) 3))).toNat (⟨0, 0, 0, 0, []⟩ : api_Step)) (List.replicate (IntKind.i64.wrap (511 + (Int.tmod (IntKind.i64.wrap ((Int.tmod a1 3) + 3)) 3))).toNat nilSl))) (fun _ hh => by rw [zip_rep]; simpa using hh) <| .gzr (G := api_Step.g) (x0 := (⟨0, 0, 0, 0, []⟩ : api_Step)) (z0 := nilSl) (IntKind.i64.wrap (511 + (Int.tmod (IntKind.i64.wrap ((Int.tmod a1 3) + 3)) 3))).toNat (fun _ => rows_nil0) <| .frz .k0 ?_
                obtain ⟨r59, hr60, h⟩ := bnd_eq h
                refine .opg (G.call call28 (.cons .t0 .nil) (S_script_Put u57 (List.replicate (IntKind.i64.wrap (511 + (Int.tmod (IntKind.i64.wrap ((Int.tmod a1 3) + 3)) 3))).toNat (⟨0, 0, 0, 0, []⟩ : api_Step)) (List.replicate (IntKind.i64.wrap (511 + (Int.tmod (IntKind.i64.wrap ((Int.tmod a1 3) + 3)) 3))).toNat nilSl) r59 hr60) .nil (.cons Mm.m0 (.cons Mm.m1 .nil)) (fun _ _ => rfl) (fun _ _ => rfl) rfl) rfl fun u61 _ => .opp (P.mov .t0) rfl <| .opp (P.ext (v := u61) .g0 rfl) rfl <| .opp (P.ext (v := N r59.2) .t1 rfl) rfl <| .op0 (OpP.toV (P.asg .t1)) rfl <| .opp (P.asg .t0) rfl <| .nil <| .then <| .seq <| .reg rfl <| .opp (P.bld (v := Ag (world_Setup.cs ⟨1, 0, 31, 0⟩)) (.cons .k (.cons .k .nil)) (bld_run zeroValue23 runUnderlying23 pl_23 (by kernel_rfl))) rfl <| .opp (P.mov .g2) rfl ?_
                obtain ⟨hb63, h⟩ := grd_eq h
                refine .opg (G.mks (by_ := 56) (cs := (api_Step.cs ⟨0, 0, 0, 0, []⟩ nilSl)) .g0 .t0 runUnderlying24 sizeOf70 typeInfo70 rfl zeroValue70 rfl rfl rfl rfl hb63.1 hb63.2 rfl) rfl fun u62 _ => .conseq .k0 (q := lst 70 5 u62 (List.zipWith api_Step.cs (List.replicate (IntKind.i64.wrap (511 + (Int.tmod (IntKind.i64.wrap ((Int.tmod a1 3) + 3)) 3))).toNat (⟨0, 0, 0, 0, []⟩ : api_Step)) (List.replicate (IntKind.i64.wrap (511 + (Int.tmod (IntKind.i64.wrap ((Int.tmod a1 3) + 3)) 3))).toNat nilSl))) (fun _ hh => by rw [zip_rep]; simpa using hh) <| .gzr (G := api_Step.g) (x0 := (⟨0, 0, 0, 0, []⟩ : api_Step)) (z0 := nilSl) (IntKind.i64.wrap (511 + (Int.tmod (IntKind.i64.wrap ((Int.tmod a1 3) + 3)) 3))).toNat (fun _ => rows_nil0) <| .frz .k0 ?_
                obtain ⟨r64, hr65, h⟩ := bnd_eq h
                refine .opg (G.call call29 (.cons .t1 (.cons .t0 .nil)) (S_script_Run (⟨1, 0, 31, 0⟩ : world_Setup) u62 (List.replicate (IntKind.i64.wrap (511 + (Int.tmod (IntKind.i64.wrap ((Int.tmod a1 3) + 3)) 3))).toNat (⟨0, 0, 0, 0, []⟩ : api_Step)) (List.replicate (IntKind.i64.wrap (511 + (Int.tmod (IntKind.i64.wrap ((Int.tmod a1 3) + 3)) 3))).toNat nilSl) r64 hr65) .nil (.cons Mm.m0 (.cons Mm.m1 .nil)) (fun _ _ => rfl) (fun _ _ => rfl) rfl) rfl fun u66 _ => .opp (P.mov .t0) rfl <| .opp (P.ext (v := u66) .g0 rfl) rfl <| .opp (P.ext (v := N r64.2) .t1 rfl) rfl <| .op0 (OpP.toV (P.asg .t1)) rfl <| .opp (P.asg .t0) rfl <| .nil <| .then <| .seq <| .reg rfl <| .opp (P.mov .g8) rfl <| .opp (P.mov .g5) rfl ?_
                refine .op (V.lnl (n := r44.1.length) .t0 .k2 map_len runUnderlying68) rfl ?_
                obtain ⟨hb67, h⟩ := grd_eq h
                refine .opp (P.bin .t1 .t0 (.rem hb67)) rfl <| .opp (P.mov .g5) rfl <| .op (V.lnl (n := r44.1.length) .t0 .k2 map_len runUnderlying68) rfl <| .opp (P.bin .t1 .t0 .add) rfl <| .opp (P.mov .g5) rfl <| .op (V.lnl (n := r44.1.length) .t0 .k2 map_len runUnderlying68) rfl ?_
                obtain ⟨hb68, h⟩ := grd_eq h
                refine .opp (P.bin .t1 .t0 (.rem hb68)) rfl <| .drop .k9 <| .opp (P.asg .t0) rfl <| .nil <| .then <| .seq <| .reg rfl <| .opp (P.mov .g5) rfl <| .opp (P.mov .g1) rfl <| .frz .k2 ?_
                obtain ⟨hb69, h⟩ := grd_eq h
                refine .capq Mm.m0 fun hc71 => .opg (G.slr (li := none) (hj := (some (Int.tmod (IntKind.i64.wrap ((Int.tmod a2 (r44.1.length : Int)) + (r44.1.length : Int))) (r44.1.length : Int)))) (mk := none) .t1 .none (.some .t0) .none Mm.m0 hc71 runUnderlying68 sizeOf5 (by simpa using hb69) rfl) rfl fun u70 hu72 => .rhead (q := rows 1 u70 ((slc r44.1 0 (Int.tmod (IntKind.i64.wrap ((Int.tmod a2 (r44.1.length : Int)) + (r44.1.length : Int))) (r44.1.length : Int)).toNat).map (fun x => [B8 x]))) (fun _ hh => by simpa [slc_map] using hh) ?_
                obtain ⟨r73, hr74, h⟩ := bnd_eq h
                refine .opg (G.call call30 (.cons .t0 .nil) (S_script_Read u70 (slc r44.1 0 (Int.tmod (IntKind.i64.wrap ((Int.tmod a2 (r44.1.length : Int)) + (r44.1.length : Int))) (r44.1.length : Int)).toNat) r73 hr74) .nil (.cons Mm.m0 .nil) (fun _ _ => rfl) (fun _ _ => rfl) rfl) rfl fun ⟨u75, w76⟩ _ => .opp (P.mov .t0) rfl <| .opp (P.ext (v := u75) .g0 rfl) rfl <| .opp (P.ext (v := N r73.2) .t1 rfl) rfl <| .op0 (OpP.toV (P.asg .t1)) rfl <| .opp (P.asg .t0) rfl <| .nil <| .then ?_
                obtain ⟨y77, hj79, h⟩ := thn_eq h
                refine .cutx (γ := Unit) (E1 := fun z78 => [(6, Bo y77)]) (L1 := fun z78 => []) (R1 := fun z78 => [rows 1 z00a (a0.Data.map (fun x => [B8 x]))]) ?_ (fun z78 => ?_)
                · clear h
                  refine .reg rfl <| .opp (P.mov .t5) rfl <| .opp (P.bin .t0 .k .eql) rfl <| .opp (P.mov .t0) rfl <| .split .k0 (fun c80 => ?_) (fun c80 => ?_)
                  · rw [if_pos c80] at hj79
                    refine .gyes rfl .g0 <| .opp (P.mov .t6) rfl <| .gyes rfl .g1 <| .op (V.lnr (n := r44.1.length) .t0 Mm.m2 map_len runUnderlying68) rfl <| .gyes rfl .g1 <| .opp (P.fa .t9 fa_70_4 rfl) rfl <| .gyes rfl .g2 <| .op (V.ld (v := z00a) .t0 .k3 (.one isAgg68 rfl)) rfl <| .gyes rfl .g2 <| .op (V.lnr (n := a0.Data.length) .t0 Mm.m9 map_len runUnderlying68) rfl <| .gyes rfl .g2 <| .opp (P.bin .k .t0 .add) rfl ?_
                    refine .gyes rfl .g2 <| .opp (P.bin .t1 .t0 .eql) rfl <| .opp (P.pickT .t1 .t0) rfl <| .opp (P.mov .t0) rfl <| .split .k0 (fun c81 => ?_) (fun c81 => ?_)
                    · rw [if_pos c81] at hj79
                      refine .gyes rfl .g0 <| .opp (P.mov .t4) rfl <| .gyes rfl .g1 <| .opp (P.bin .t0 .k .eql) rfl <| .gyes rfl .g1 <| .opp (P.mov .g5) rfl <| .gyes rfl .g2 <| .opp (P.bin .t0 .k .gtr) rfl <| .gyes rfl .g2 <| .opp (P.bin .t1 .t0 (.bool_eql (by kernel_rfl))) rfl <| .opp (P.pickT .t1 .t0) rfl <| .opp (P.mov .t0) rfl ?_
                      refine .split .k0 (fun c82 => ?_) (fun c82 => ?_)
                      · rw [if_pos c82] at hj79
                        refine .gyes rfl .g0 <| .opp (P.mov .t3) rfl <| .gyes rfl .g1 <| .opp (P.bin .t0 .k .eql) rfl <| .gyes rfl .g1 <| .opp (P.mov .t4) rfl <| .gyes rfl .g2 <| .opp (P.bin .t0 .k .gtr) rfl <| .gyes rfl .g2 <| .opp (P.bin .t1 .t0 (.bool_eql (by kernel_rfl))) rfl <| .opp (P.pickT .t1 .t0) rfl <| .opp (P.mov .t0) rfl ?_
                        refine .split .k0 (fun c83 => ?_) (fun c83 => ?_)
                        · rw [if_pos c83] at hj79
                          refine .gyes rfl .g0 <| .opp (P.mov .t1) rfl <| .gyes rfl .g1 <| .opp (P.bin .t0 .k .eql) rfl <| .gyes rfl .g1 <| .opp (P.mov .t2) rfl <| .gyes rfl .g2 <| .opp (P.bin .t0 .k .eql) rfl <| .gyes rfl .g2 <| .opp (P.bin .t1 .t0 (.bool_eql (by kernel_rfl))) rfl <| .opp (P.pickT .t1 .t0) rfl <| .opp (P.asg .t0) rfl ?_
                          refine .nil ?_
                          subst hj79
                          exact .stj () (.cons Mm.m0 .nil) (.of .nil) (.cons Mm.m9 .nil)
                        · rw [if_neg (ne_true_of_eq_false c83)] at hj79
                          refine .gno rfl .g0 rfl rfl <| .gno rfl .g0 rfl rfl <| .gno rfl .g0 rfl rfl <| .gno rfl .g0 rfl rfl <| .gno rfl .g0 rfl rfl <| .opp (P.pickF .t0 .k) rfl <| .opp (P.asg .t0) rfl <| .nil ?_
                          subst hj79
                          exact .stj () (.cons Mm.m0 .nil) (.of .nil) (.cons Mm.m9 .nil)
                      · rw [if_neg (ne_true_of_eq_false c82)] at hj79
                        refine .gno rfl .g0 rfl rfl <| .gno rfl .g0 rfl rfl <| .gno rfl .g0 rfl rfl <| .gno rfl .g0 rfl rfl <| .gno rfl .g0 rfl rfl <| .opp (P.pickF .t0 .k) rfl <| .opp (P.mov .t0) rfl <| .gno rfl .g0 rfl rfl <| .gno rfl .g0 rfl rfl <| .gno rfl .g0 rfl rfl <| .gno rfl .g0 rfl rfl <| .gno rfl .g0 rfl rfl ?_
                        refine .opp (P.pickF .t0 .k) rfl <| .opp (P.asg .t0) rfl <| .nil ?_
                        subst hj79
                        exact .stj () (.cons Mm.m0 .nil) (.of .nil) (.cons Mm.m9 .nil)
                    · rw [if_neg (ne_true_of_eq_false c81)] at hj79
                      refine .gno rfl .g0 rfl rfl <| .gno rfl .g0 rfl rfl <| .gno rfl .g0 rfl rfl <| .gno rfl .g0 rfl rfl <| .gno rfl .g0 rfl rfl <| .opp (P.pickF .t0 .k) rfl <| .opp (P.mov .t0) rfl <| .gno rfl .g0 rfl rfl <| .gno rfl .g0 rfl rfl <| .gno rfl .g0 rfl rfl <| .gno rfl .g0 rfl rfl <| .gno rfl .g0 rfl rfl ?_
                      refine .opp (P.pickF .t0 .k) rfl <| .opp (P.mov .t0) rfl <| .gno rfl .g0 rfl rfl <| .gno rfl .g0 rfl rfl <| .gno rfl .g0 rfl rfl <| .gno rfl .g0 rfl rfl <| .gno rfl .g0 rfl rfl <| .opp (P.pickF .t0 .k) rfl <| .opp (P.asg .t0) rfl <| .nil ?_
                      subst hj79
                      exact .stj () (.cons Mm.m0 .nil) (.of .nil) (.cons Mm.m9 .nil)
                  · rw [if_neg (ne_true_of_eq_false c80)] at hj79
                    refine .gno rfl .g0 rfl rfl <| .gno rfl .g0 rfl rfl <| .gno rfl .g0 rfl rfl <| .gno rfl .g0 rfl rfl <| .gno rfl .g0 rfl rfl <| .gno rfl .g0 rfl rfl <| .gno rfl .g0 rfl rfl <| .opp (P.pickF .t0 .k) rfl <| .opp (P.mov .t0) rfl <| .gno rfl .g0 rfl rfl <| .gno rfl .g0 rfl rfl <| .gno rfl .g0 rfl rfl ?_
                    refine .gno rfl .g0 rfl rfl <| .gno rfl .g0 rfl rfl <| .opp (P.pickF .t0 .k) rfl <| .opp (P.mov .t0) rfl <| .gno rfl .g0 rfl rfl <| .gno rfl .g0 rfl rfl <| .gno rfl .g0 rfl rfl <| .gno rfl .g0 rfl rfl <| .gno rfl .g0 rfl rfl <| .opp (P.pickF .t0 .k) rfl <| .opp (P.mov .t0) rfl <| .gno rfl .g0 rfl rfl ?_
                    refine .gno rfl .g0 rfl rfl <| .gno rfl .g0 rfl rfl <| .gno rfl .g0 rfl rfl <| .gno rfl .g0 rfl rfl <| .opp (P.pickF .t0 .k) rfl <| .opp (P.asg .t0) rfl <| .nil ?_
                    subst hj79
                    exact .stj () (.cons Mm.m0 .nil) (.of .nil) (.cons Mm.m9 .nil)
                · clear hj79
                  refine .ret ?_
                  cases h
                  exact .finw () (.r1 rfl (.tmp .g0)) trivial (Ls.of .nil) .nil
attribute [irreducible] narrowslaw25_ScriptRefuses
end Go.Sl
