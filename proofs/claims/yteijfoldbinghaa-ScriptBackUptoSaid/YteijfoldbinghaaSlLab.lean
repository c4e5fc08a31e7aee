/- Walked code of the program, its pure functions and their contracts. -/
import Derived.Test.YteijfoldbinghaaSlLaa
set_option linter.unusedVariables false
set_option linter.unusedSimpArgs false
namespace Go.Sl
open Go.Proofs Go.Proofs.Try

noncomputable def narrowslaw25_ScriptBack (a0 : List api_Step) (a1 : List UInt8) : Option (Bool) :=
  Option.bind (narrowslaw25_alive) fun r1 => if (!r1) = true then (some false) else (Option.bind (script_Put a0) fun r4 => Option.bind (if (decide (r4.2 = 0)) = true then (Option.bind (script_Read r4.1) fun r11 => Option.bind (if (decide (r11.2 ≠ 0)) = true then (some true) else (Option.bind (narrowslaw25_same a0 r11.1) fun r19 => some (!r19))) fun (y15 : Bool) => if y15 = true then (Option.map Lo.rt (some false)) else (some (Lo.dn ()))) else (if (decide ((r4.1.length : Int) ≠ 0)) = true then (Option.map Lo.rt (some false)) else (some (Lo.dn ())))) fun o40 => Lo.on o40 fun (_ : Unit) => Option.bind (script_Read a1) fun r27 => if (decide (r27.2 ≠ 0)) = true then (some (decide ((r27.1.length : Int) = 0))) else (Option.bind (script_Put r27.1) fun r33 => thn (if (decide (r33.2 = 0)) = true then (decide ((⟨⟨r33.1⟩⟩ : ByteArray) = (⟨⟨a1⟩⟩ : ByteArray))) else false) fun (y36 : Bool) => some y36))
set_option maxRecDepth 20000 in
set_option maxHeartbeats 1000000 in
theorem S_narrowslaw25_ScriptBack (v00 : Value) (a0 : List api_Step) (zl00 : List Value) (v01 : Value) (a1 : List UInt8) (r : Bool) (h : narrowslaw25_ScriptBack a0 a1 = some r) :
    SpecF Try.prog 4 [v00, v01] [] [rows 5 v00 (List.zipWith api_Step.cs a0 zl00), gz api_Step.g a0 zl00, rows 1 v01 (a1.map (fun x => [B8 x]))] (fun z : Unit => True) (fun z => Bo r) (fun z M =>  M) (fun z M =>  M) := by
  refine .of func4 rfl ntmps4 rfl fun w0 D0 G0 => ?_
  unfold narrowslaw25_ScriptBack at h
  refine .seq ?_
  refine .reg rfl ?_
  refine .op0 (OpP.toV (P.asg .k)) rfl ?_
  refine .nil ?_
  refine .then ?_
  refine .seq ?_
  refine .seq ?_
  refine .reg rfl ?_
  obtain ⟨r1, hr2, h⟩ := bnd_eq h
  refine .opg (G.call call18 .nil (S_narrowslaw25_alive  r1 hr2) .nil .nil (fun _ _ => rfl) (fun _ _ => rfl) rfl) rfl fun _ _ => ?_
  refine .opp (P.not .t0) rfl ?_
  refine .nil ?_
  refine .then ?_
  refine .cond .t0 (fun c3 => ?_) (fun c3 => ?_)
  · rw [if_pos c3] at h
    refine .seq ?_
    refine .reg rfl ?_
    refine .opp (P.asg .k) rfl ?_
    refine .nil ?_
    refine .then ?_
    refine .ret ?_
    refine .thr ?_
    cases h
    exact .finw () (.r1 rfl (.tmp .g0)) trivial (Ls.of .nil) .nil
  · rw [if_neg (ne_true_of_eq_false c3)] at h
    refine .skip ?_
    refine .then ?_
    refine .seq ?_
    refine .reg rfl ?_
    refine .opp (P.mov .g0) rfl ?_
    obtain ⟨r4, hr5, h⟩ := bnd_eq h
    refine .opg (G.call call19 (.cons .t0 .nil) (S_script_Put v00 a0 zl00 r4 hr5) .nil (.cons Mm.m0 (.cons Mm.m1 .nil)) (fun _ _ => rfl) (fun _ _ => rfl) rfl) rfl fun u6 _ => ?_
    refine .opp (P.mov .t0) rfl ?_
    refine .opp (P.ext (v := u6) .g0 rfl) rfl ?_
    refine .opp (P.ext (v := N r4.2) .t1 rfl) rfl ?_
    refine .opp (P.asg .t1) rfl ?_
    refine .opp (P.asg .t1) rfl ?_
    refine .nil ?_
    refine .then ?_
    obtain ⟨o40, hj9, h⟩ := bnd_eq h
    refine .cuto (γ := Unit) h (E1 := fun (_ : Unit) _ => [(1, v01)]) (L1 := fun (_ : Unit) _ => []) (R1 := fun (_ : Unit) _ => [rows 1 v01 (a1.map (fun x => [B8 x])), rows 5 v00 (List.zipWith api_Step.cs a0 zl00), gz api_Step.g a0 zl00]) ?_ (fun _ _ h' => ?_)
    · refine .seq ?_
      refine .reg rfl ?_
      refine .opp (P.mov .t0) rfl ?_
      refine .opp (P.bin .t0 .k .eql) rfl ?_
      refine .nil ?_
      refine .then ?_
      refine .cond .t0 (fun c10 => ?_) (fun c10 => ?_)
      · rw [if_pos c10] at hj9
        refine .seq ?_
        refine .reg rfl ?_
        refine .opp (P.mov .t0) rfl ?_
        refine .frz .k0 ?_
        obtain ⟨r11, hr12, hj9⟩ := bnd_eq hj9
        refine .opg (G.call call20 (.cons .t0 .nil) (S_script_Read u6 r4.1 r11 hr12) .nil (.cons Mm.m0 .nil) (fun _ _ => rfl) (fun _ _ => rfl) rfl) rfl fun ⟨u13, w14⟩ _ => ?_
        refine .opp (P.mov .t0) rfl ?_
        refine .opp (P.ext (v := u13) .g0 rfl) rfl ?_
        refine .opp (P.ext (v := N r11.2) .t1 rfl) rfl ?_
        refine .opp (P.asg .t1) rfl ?_
        refine .opp (P.asg .t1) rfl ?_
        refine .nil ?_
        refine .then ?_
        refine .frz .k0 ?_
        obtain ⟨y15, hj17, hj9⟩ := bnd_eq hj9
        refine .cutx (γ := Unit) (E1 := fun z16 => [(34, Bo y15), (1, v01)]) (L1 := fun z16 => []) (R1 := fun z16 => [rows 1 v01 (a1.map (fun x => [B8 x])), rows 5 v00 (List.zipWith api_Step.cs a0 zl00), gz api_Step.g a0 zl00]) ?_ (fun z16 => ?_)
        · clear hj9
          refine .reg rfl ?_
          refine .opp (P.mov .t0) rfl ?_
          refine .opp (P.bin .t0 .k .neq) rfl ?_
          refine .opp (P.mov .t0) rfl ?_
          refine .split .k0 (fun c18 => ?_) (fun c18 => ?_)
          · rw [if_pos c18] at hj17
            refine .gno rfl .g0 rfl rfl ?_
            refine .gno rfl .g0 rfl rfl ?_
            refine .gno rfl .g0 rfl rfl ?_
            refine .gno rfl .g0 rfl rfl ?_
            refine .opp (P.pickT .t0 .k) rfl ?_
            refine .nil ?_
            cases hj17
            exact .stj () (.cons Mm.m0 (.cons Mm.m3 .nil)) (.of .nil) (.cons Mm.m5 (.cons Mm.m3 (.cons Mm.m4 .nil)))
          · rw [if_neg (ne_true_of_eq_false c18)] at hj17
            refine .gyes rfl .g0 ?_
            refine .opp (P.mov .t2) rfl ?_
            refine .gyes rfl .g1 ?_
            refine .opp (P.mov .t2) rfl ?_
            refine .gyes rfl .g2 ?_
            obtain ⟨r19, hr20, hj17⟩ := bnd_eq hj17
            refine .opg (G.call call21 (.cons .t1 (.cons .t0 .nil)) (S_narrowslaw25_same v00 a0 zl00 u13 r11.1 w14 r19 hr20) .nil (.cons Mm.m3 (.cons Mm.m4 (.cons Mm.m0 (.cons Mm.m1 .nil)))) (fun _ _ => rfl) (fun _ _ => rfl) rfl) rfl fun _ _ => ?_
            refine .gyes rfl .g1 ?_
            refine .opp (P.not .t0) rfl ?_
            refine .opp (P.pickF .t1 .t0) rfl ?_
            refine .nil ?_
            cases hj17
            exact .stj () (.cons Mm.m0 (.cons Mm.m1 .nil)) (.of .nil) (.cons Mm.m5 (.cons Mm.m3 (.cons Mm.m4 .nil)))
        · clear hj17
          refine .cond .t0 (fun c21 => ?_) (fun c21 => ?_)
          · rw [if_pos c21] at hj9
            refine .seq ?_
            refine .reg rfl ?_
            refine .opp (P.asg .k) rfl ?_
            refine .nil ?_
            refine .then ?_
            refine .ret ?_
            obtain ⟨x22, hx23, rfl⟩ := map_lrt hj9
            obtain rfl := rt_on h
            refine .thr ?_
            cases hx23
            exact .finw () (.r1 rfl (.tmp .g0)) trivial (Ls.of .nil) .nil
          · rw [if_neg (ne_true_of_eq_false c21)] at hj9
            refine .skip ?_
            cases hj9
            exact .sty () () (dn_on h) (.cons Mm.m0 .nil) (.of .nil) (.cons Mm.m0 (.cons Mm.m1 (.cons Mm.m2 .nil)))
      · rw [if_neg (ne_true_of_eq_false c10)] at hj9
        refine .seq ?_
        refine .reg rfl ?_
        refine .opp (P.mov .t0) rfl ?_
        refine .op (V.lnl (n := r4.1.length) .t0 .k0 map_len runUnderlying44) rfl ?_
        refine .opp (P.bin .t0 .k .neq) rfl ?_
        refine .nil ?_
        refine .then ?_
        refine .cond .t0 (fun c24 => ?_) (fun c24 => ?_)
        · rw [if_pos c24] at hj9
          refine .seq ?_
          refine .reg rfl ?_
          refine .opp (P.asg .k) rfl ?_
          refine .nil ?_
          refine .then ?_
          refine .ret ?_
          obtain ⟨x25, hx26, rfl⟩ := map_lrt hj9
          obtain rfl := rt_on h
          refine .thr ?_
          cases hx26
          exact .finw () (.r1 rfl (.tmp .g0)) trivial (Ls.of .nil) .nil
        · rw [if_neg (ne_true_of_eq_false c24)] at hj9
          refine .skip ?_
          cases hj9
          exact .sty () () (dn_on h) (.cons Mm.m1 .nil) (.of .nil) (.cons Mm.m2 (.cons Mm.m0 (.cons Mm.m1 .nil)))
    · replace h := h'
      refine .seq ?_
      refine .reg rfl ?_
      refine .opp (P.mov .g0) rfl ?_
      obtain ⟨r27, hr28, h⟩ := bnd_eq h
      refine .opg (G.call call20 (.cons .t0 .nil) (S_script_Read v01 a1 r27 hr28) .nil (.cons Mm.m0 .nil) (fun _ _ => rfl) (fun _ _ => rfl) rfl) rfl fun ⟨u29, w30⟩ _ => ?_
      refine .opp (P.mov .t0) rfl ?_
      refine .opp (P.ext (v := u29) .g0 rfl) rfl ?_
      refine .opp (P.ext (v := N r27.2) .t1 rfl) rfl ?_
      refine .opp (P.asg .t1) rfl ?_
      refine .opp (P.asg .t1) rfl ?_
      refine .nil ?_
      refine .then ?_
      refine .seq ?_
      refine .seq ?_
      refine .reg rfl ?_
      refine .opp (P.mov .t0) rfl ?_
      refine .opp (P.bin .t0 .k .neq) rfl ?_
      refine .nil ?_
      refine .then ?_
      refine .cond .t0 (fun c31 => ?_) (fun c31 => ?_)
      · rw [if_pos c31] at h
        refine .seq ?_
        refine .reg rfl ?_
        refine .opp (P.mov .t0) rfl ?_
        refine .gzl Mm.m0 fun hz32 => ?_
        refine .op (V.lnl (n := r27.1.length) .t0 .k0 (zip_len hz32) runUnderlying43) rfl ?_
        refine .opp (P.bin .t0 .k .eql) rfl ?_
        refine .opp (P.asg .t0) rfl ?_
        refine .nil ?_
        refine .then ?_
        refine .ret ?_
        refine .thr ?_
        cases h
        exact .finw () (.r1 rfl (.tmp .g0)) trivial (Ls.of .nil) .nil
      · rw [if_neg (ne_true_of_eq_false c31)] at h
        refine .skip ?_
        refine .then ?_
        refine .seq ?_
        refine .reg rfl ?_
        refine .opp (P.mov .t0) rfl ?_
        refine .frz .k0 ?_
        obtain ⟨r33, hr34, h⟩ := bnd_eq h
        refine .opg (G.call call19 (.cons .t0 .nil) (S_script_Put u29 r27.1 w30 r33 hr34) .nil (.cons Mm.m0 (.cons Mm.m1 .nil)) (fun _ _ => rfl) (fun _ _ => rfl) rfl) rfl fun u35 _ => ?_
        refine .opp (P.mov .t0) rfl ?_
        refine .opp (P.ext (v := u35) .g0 rfl) rfl ?_
        refine .opp (P.ext (v := N r33.2) .t1 rfl) rfl ?_
        refine .opp (P.asg .t1) rfl ?_
        refine .opp (P.asg .t1) rfl ?_
        refine .nil ?_
        refine .then ?_
        obtain ⟨y36, hj38, h⟩ := thn_eq h
        refine .cutx (γ := Unit) (E1 := fun z37 => [(4, Bo y36)]) (L1 := fun z37 => []) (R1 := fun z37 => [rows 1 v01 (a1.map (fun x => [B8 x])), rows 5 v00 (List.zipWith api_Step.cs a0 zl00), gz api_Step.g a0 zl00]) ?_ (fun z37 => ?_)
        · clear h
          refine .reg rfl ?_
          refine .opp (P.mov .t0) rfl ?_
          refine .opp (P.bin .t0 .k .eql) rfl ?_
          refine .opp (P.mov .t0) rfl ?_
          refine .split .k0 (fun c39 => ?_) (fun c39 => ?_)
          · rw [if_pos c39] at hj38
            refine .gyes rfl .g0 ?_
            refine .opp (P.mov .t1) rfl ?_
            refine .gyes rfl .g1 ?_
            refine .op (V.b2sl (l := r33.1) (e := 5) .t0 .k0 (by kernel_rfl) (by kernel_rfl) (by kernel_rfl)) rfl ?_
            refine .gyes rfl .g1 ?_
            refine .opp (P.mov .t2) rfl ?_
            refine .gyes rfl .g2 ?_
            refine .op (V.b2s (l := a1) (e := 5) .t0 Mm.m2 (by kernel_rfl) (by kernel_rfl) (by kernel_rfl)) rfl ?_
            refine .gyes rfl .g2 ?_
            refine .opp (P.bin .t1 .t0 .str_eql) rfl ?_
            refine .opp (P.pickT .t1 .t0) rfl ?_
            refine .opp (P.asg .t0) rfl ?_
            refine .nil ?_
            subst hj38
            exact .stj () (.cons Mm.m0 .nil) (.of .nil) (.cons Mm.m2 (.cons Mm.m3 (.cons Mm.m4 .nil)))
          · rw [if_neg (ne_true_of_eq_false c39)] at hj38
            refine .gno rfl .g0 rfl rfl ?_
            refine .gno rfl .g0 rfl rfl ?_
            refine .gno rfl .g0 rfl rfl ?_
            refine .gno rfl .g0 rfl rfl ?_
            refine .gno rfl .g0 rfl rfl ?_
            refine .opp (P.pickF .t0 .k) rfl ?_
            refine .opp (P.asg .t0) rfl ?_
            refine .nil ?_
            subst hj38
            exact .stj () (.cons Mm.m0 .nil) (.of .nil) (.cons Mm.m2 (.cons Mm.m3 (.cons Mm.m4 .nil)))
        · clear hj38
          refine .ret ?_
          cases h
          exact .finw () (.r1 rfl (.tmp .g0)) trivial (Ls.of .nil) .nil
attribute [irreducible] narrowslaw25_ScriptBack
end Go.Sl
