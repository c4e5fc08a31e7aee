/- Walked code of the program, its pure functions and their contracts. -/
import Derived.Test.YtknpgjcnhneaaaaSlAub
set_option linter.unusedVariables false
set_option linter.unusedSimpArgs false
namespace Go.Sl
open Go.Proofs Go.Proofs.Try
structure field_Out where
  b : List UInt8
  e_ : Int
  made : Bool
  deriving DecidableEq
def field_Out.cs (x : field_Out) (z0 : Value) : List Value := [z0, N x.e_, .bool x.made]
def field_Out.g (x : field_Out) (z : Value) : Asn := rows 1 z (x.b.map (fun x => [B8 x]))
def field_Out.z : field_Out := ⟨[], 0, false⟩
theorem fa_105_0 : FaV Try.prog 105 0 0 := .mk runUnderlying105 rfl sizeOf40 rfl rfl
theorem fa_105_1 : FaV Try.prog 105 1 1 := .mk runUnderlying105 rfl sizeOf25 rfl rfl
theorem fa_105_2 : FaV Try.prog 105 2 2 := .mk runUnderlying105 rfl sizeOf4 rfl rfl
theorem pl_105 : ∀ w, ((#[{ name := "b", type := 40, offset := 0, embedded := false, tag := "", pkgPath := "narrows/field", byteOffset := 0 }, { name := "e", type := 25, offset := 1, embedded := false, tag := "", pkgPath := "narrows/field", byteOffset := 24 }, { name := "made", type := 4, offset := 2, embedded := false, tag := "", pkgPath := "narrows/field", byteOffset := 32 }] : Array Field).mapM fun f => do pure (f.offset, ← sizeOf f.type) : Sem (Array (Nat × Nat))).run Try.prog w = .ok #[(0, 1), (1, 1), (2, 1)] w := fun w => by simp [sizeOf4, sizeOf25, sizeOf40]
noncomputable def narrowsref01_Wide (a0 : api_Wide) : Option ((List UInt8)) :=
  Option.bind (loopW (fun (s3 : Int × (List UInt8)) => if (decide (s3.1 ≥ 0)) = true then (Option.bind (at_ (narrowsref01_Digits a0) s3.1) fun (x16 : Int) => Option.bind (at_ (narrowsref01_Digits a0) s3.1) fun (x23 : Int) => grd ((s3.2.length + ([B8i (IntKind.i64.wrap (Int.tdiv x16 256)), B8i (Int.tmod x23 256)] : List UInt8).length) * 1 ≤ 140737488355328) <| some (.nx ((IntKind.i64.wrap (s3.1 - 1), (s3.2 ++ ([B8i (IntKind.i64.wrap (Int.tdiv x16 256)), B8i (Int.tmod x23 256)] : List UInt8)))))) else (some (.br (s3.1, s3.2)))) (15, [])) fun o5 => Lo.on o5 fun (s3 : Int × (List UInt8)) => some s3.2
set_option maxRecDepth 20000 in
set_option maxHeartbeats 1000000 in
theorem S_narrowsref01_Wide (a0 : api_Wide) (r : (List UInt8)) (h : narrowsref01_Wide a0 = some r) :
    SpecF Try.prog 31 [Ag (api_Wide.cs a0)] [] [] (fun z : Value => True) (fun z => z) (fun z M => lst 5 1 z (r.map (fun x => [B8 x])) ::  M) (fun z M =>  M) := by
  refine .of func31 rfl ntmps31 rfl fun w0 D0 G0 => ?_
  unfold narrowsref01_Wide at h
  refine .seq ?_
  refine .reg rfl ?_
  refine .opx (X.box (cs := (api_Wide.cs a0)) .t0 rfl) rfl fun b1 => ?_
  refine .op0 (OpP.toV (P.asg .k)) rfl ?_
  refine .nil ?_
  refine .then ?_
  refine .seq ?_
  refine .reg rfl ?_
  refine .op (V.ld (v := Ag (api_Wide.cs a0)) .t0 .k0 (.agg isAgg28 sizeOf28 rfl rfl)) rfl ?_
  refine .opg (G.call call42 (.cons .t0 .nil) (S_narrowsref01_Digits a0 _ rfl) .nil .nil (fun _ _ => rfl) (fun _ _ => rfl) rfl) rfl fun u2 _ => ?_
  refine .opp (P.asg .t0) rfl ?_
  refine .nil ?_
  refine .then ?_
  refine .seq ?_
  refine .reg rfl ?_
  refine .opp (P.asg .k) rfl ?_
  refine .nil ?_
  refine .then ?_
  refine .seq ?_
  refine .seq ?_
  refine .reg rfl ?_
  refine .opp (P.asg .k) rfl ?_
  refine .nil ?_
  refine .then ?_
  refine .block ?_
  refine .lnil 5 1 ?_
  obtain ⟨o5, ho6, h⟩ := bnd_eq h
  refine .loopW (γ := Value) (fun (s3 : Int × (List UInt8)) z4 => [(5, N s3.1), (4, z4), (3, u2)]) (fun (s3 : Int × (List UInt8)) z4 => [lst 5 1 z4 (s3.2.map (fun x => [B8 x])), lst 3 1 u2 ((narrowsref01_Digits a0).map (fun x => [N x]))]) (fun (s3 : Int × (List UInt8)) z4 => []) nilSl ho6 (.cons Mm.m0 (.cons Mm.m1 (.cons Mm.m2 .nil))) (.of (.cons .k0 (.cons .k0 .nil))) .nil (fun n11 s3 z4 hr9 => ?_)
  obtain ⟨ct10, hc7, hn8⟩ := loopK_at hr9
  refine .seq ?_
  refine .seq ?_
  refine .reg rfl ?_
  refine .opp (P.mov .g0) rfl ?_
  refine .opp (P.bin .t0 .k .geq) rfl ?_
  refine .nil ?_
  refine .then ?_
  refine .cond .t0 (fun c12 => ?_) (fun c12 => ?_)
  · rw [if_pos c12] at hc7
    refine .skip ?_
    refine .then ?_
    refine .seq ?_
    refine .block ?_
    refine .drawl [lst 3 1 u2 ((narrowsref01_Digits a0).map (fun x => [N x]))] [] (Ls.of (.cons .k1 .nil)) Rs.nil 16 (.on 0 .pu (.on 1 .pu (.on 2 .pu (.on 3 .pu (.on 7 .pu (.on 8 .pu (.on 9 .pu (.on 4 .ld (.on 5 .pu (.on 6 .pu (.on 10 .ld (.on 11 .pu (.on 12 .pu (.on 13 .go (.on 14 .go (.on 15 .go .nl)))))))))))))))) follows_mixed (.inb (.thn (.thn (.inb (.thn .body))))) (by kernel_rfl) ?_
    refine .dpu rfl (.n rfl) (P.mov .g1) rfl rfl ?_
    refine .dpu rfl (.n rfl) (P.mov .g3) rfl rfl ?_
    refine .dpu rfl (.n rfl) (P.mov .g2) rfl rfl ?_
    obtain ⟨x16, hx17, hc7⟩ := bnd_eq hc7
    obtain ⟨i18, hi19, hx17⟩ := at_eq hx17
    have hi19_ : (s3.1).toNat = i18 := by rw [hi19]; rfl
    refine .ixql .k1 (map_get hx17) fun p13 q14 hq15 => ?_
    refine .dpu rfl (.n rfl) (P.ixi (i := i18) .t0 hi19 .t0 hq15 runUnderlying74 sizeOf3) rfl rfl ?_
    refine .dpu rfl (.n rfl) (P.mov .g4) rfl rfl ?_
    refine .dpu rfl (.n rfl) (P.mov .g3) rfl rfl ?_
    obtain ⟨x23, hx24, hc7⟩ := bnd_eq hc7
    obtain ⟨i25, hi26, hx24⟩ := at_eq hx24
    have hi26_ : (s3.1).toNat = i25 := by rw [hi26]; rfl
    refine .ixql .k1 (map_get hx24) fun p20 q21 hq22 => ?_
    refine .dpu rfl (.n rfl) (P.ixi (i := i25) .t0 hi26 .t0 hq22 runUnderlying74 sizeOf3) rfl rfl ?_
    refine .dld rfl (.n rfl) (V.ldxl0 (u := N x16) .t1 hq15 .k0 (map_get hx17) (.one isAgg3 rfl)) (fun _ h => (h.imp (Ls.of (.cons .k1 .nil))).ro Rs.nil) rfl rfl ?_
    refine .dpu rfl (.n rfl) (P.bin .t0 .k (.quo (by decide))) rfl rfl ?_
    refine .dpu rfl (.n rfl) (P.cnvB8 (m := IntKind.i64.wrap (Int.tdiv x16 256)) .t0 runUnderlying3 runUnderlying5) rfl rfl ?_
    refine .dld rfl (.n rfl) (V.ldxl0 (u := N x23) .t1 hq22 .k0 (map_get hx24) (.one isAgg3 rfl)) (fun _ h => (h.imp (Ls.of (.cons .k1 .nil))).ro Rs.nil) rfl rfl ?_
    refine .dpu rfl (.n rfl) (P.bin .t0 .k (.rem (by decide))) rfl rfl ?_
    refine .dpu rfl (.n rfl) (P.cnvB8 (m := Int.tmod x23 256) .t0 runUnderlying3 runUnderlying5) rfl rfl ?_
    refine .dgo rfl (.n rfl) (G.bsln (xs := [[B8 (B8i (IntKind.i64.wrap (Int.tdiv x16 256)))], [B8 (B8i (Int.tmod x23 256))]]) (.cons .t1 (.cons .t0 .nil)) runUnderlying40 sizeOf5 zeroValue5 (by kernel_rfl) rfl rfl rfl rfl rfl) (.inr fun _ _ _ h => (h.imp (Ls.of (.cons .k2 .nil))).ro Rs.nil) fun u27 _ => ?_
    obtain ⟨hb29, hc7⟩ := grd_eq hc7
    refine .dgo rfl (.n rfl) (G.app (by_ := 1) .t1 .t0 .k1 (.inr (.inr ⟨_, Mm.m0⟩)) runUnderlying40 runUnderlying40 sizeOf5 typeInfo5 rfl rfl zeroValue5 rfl rfl (by simpa using hb29) rfl) (.inr fun _ _ _ h => (h.imp (Ls.of (.cons .k2 .nil))).ro Rs.nil) fun u28 _ => ?_
    refine .conseq .k0 (q := lst 5 1 u28 ((s3.2 ++ ([B8i (IntKind.i64.wrap (Int.tdiv x16 256)), B8i (Int.tmod x23 256)] : List UInt8)).map (fun x => [B8 x]))) (fun _ hh => by simpa [List.map_append] using hh) ?_
    refine .drop .k2 ?_
    refine .dgo rfl (.n rfl) (OpV.g (OpP.toV (P.asg .t0)) rfl) (.inr fun _ _ _ h => (h.imp (Ls.of (.cons .k2 .nil))).ro Rs.nil) fun _ _ => ?_
    refine .dnil ?_
    refine .inn ?_
    refine .then ?_
    refine .reg rfl ?_
    refine .opp (P.mov .g1) rfl ?_
    refine .opp (P.bin .t0 .k .sub) rfl ?_
    refine .drop .k2 ?_
    refine .opp (P.asg .t0) rfl ?_
    refine .nil ?_
    cases hc7
    obtain ⟨m30, hm31, hn8⟩ := hn8
    exact .rdW ((IntKind.i64.wrap (s3.1 - 1), (s3.2 ++ ([B8i (IntKind.i64.wrap (Int.tdiv x16 256)), B8i (Int.tmod x23 256)] : List UInt8)))) u28 hm31 hn8 (.cons Mm.m0 (.cons Mm.m1 (.cons Mm.m2 .nil))) (.of (.cons .k0 (.cons .k1 .nil))) .nil
  · rw [if_neg (ne_true_of_eq_false c12)] at hc7
    refine .exit ?_
    refine .thx ?_
    cases hc7
    refine .told (γ := Value) h hn8 (fun (s3 : Int × (List UInt8)) z4 => [(5, N s3.1), (4, z4), (3, u2)]) (fun (s3 : Int × (List UInt8)) z4 => [lst 5 1 z4 (s3.2.map (fun x => [B8 x])), lst 3 1 u2 ((narrowsref01_Digits a0).map (fun x => [N x]))]) (fun (s3 : Int × (List UInt8)) z4 => []) z4 (.cons Mm.m0 (.cons Mm.m1 (.cons Mm.m2 .nil))) (.of (.cons .k0 (.cons .k0 .nil))) .nil (fun s3 z4 h' => ?_)
    replace h := h'
    refine .thx ?_
    refine .inb ?_
    refine .then ?_
    refine .seq ?_
    refine .reg rfl ?_
    refine .opp (P.mov .t1) rfl ?_
    refine .opp (P.asg .t0) rfl ?_
    refine .nil ?_
    refine .then ?_
    refine .ret ?_
    cases h
    exact .finw z4 (.r1 rfl (.tmp .g0)) trivial (Ls.of (.cons .k0 .nil)) .nil
attribute [irreducible] narrowsref01_Wide
noncomputable def narrowsref06_Wide (a0 : narrowsref06_W) (a1 : api_Wide) : Option (narrowsref06_W) :=
  Option.bind (narrowsref01_Wide a1) fun r4 => Option.bind (narrowsref06_put a0 r4 0) fun r7 => some r7
set_option maxRecDepth 20000 in
set_option maxHeartbeats 1000000 in
theorem S_narrowsref06_Wide (a0 : narrowsref06_W) (z00a : Value) (a1 : api_Wide) (r : narrowsref06_W) (h : narrowsref06_Wide a0 a1 = some r) :
    SpecF Try.prog 17 [Ag (narrowsref06_W.cs a0 z00a), Ag (api_Wide.cs a1)] [] [rows 1 z00a (a0.B.map (fun x => [B8 x]))] (fun z : Value => True) (fun z => Ag (narrowsref06_W.cs r z)) (fun z M =>  M) (fun z M => rows 1 z (r.B.map (fun x => [B8 x])) ::  M) := by
  refine .of func17 rfl ntmps17 rfl fun w0 D0 G0 => ?_
  unfold narrowsref06_Wide at h
  refine .seq ?_
  refine .reg rfl ?_
  refine .opx (X.box (cs := (narrowsref06_W.cs a0 z00a)) .t0 rfl) rfl fun b1 => ?_
  refine .opx (X.box (cs := (api_Wide.cs a1)) .t1 rfl) rfl fun b2 => ?_
  refine .opx (X.alc (cs := (narrowsref06_W.cs ⟨[], 0⟩ nilSl)) zeroValue53 rfl) rfl fun b3 => ?_
  refine .nil ?_
  refine .then ?_
  refine .seq ?_
  refine .drawl [blk b2 28 (api_Wide.cs a1), blk b1 53 (narrowsref06_W.cs a0 z00a)] [rows 1 z00a (a0.B.map (fun x => [B8 x]))] (Ls.of (.cons .k1 (.cons .k1 .nil))) (Rs.cons Mm.m0 Rs.nil) 5 (.on 0 .ld (.on 1 .ld (.on 2 .go (.on 3 .go (.on 4 .go .nl))))) follows_mixed (.thn .body) (by kernel_rfl) ?_
  refine .dld rfl (.n rfl) (V.ld (v := Ag (narrowsref06_W.cs a0 z00a)) .t2 .k1 (.agg isAgg53 sizeOf53 rfl rfl)) (fun _ h => (h.imp (Ls.of (.cons .k1 (.cons .k1 .nil)))).ro (Rs.cons Mm.m0 Rs.nil)) rfl rfl ?_
  refine .dld rfl (.n rfl) (V.ld (v := Ag (api_Wide.cs a1)) .t2 .k0 (.agg isAgg28 sizeOf28 rfl rfl)) (fun _ h => (h.imp (Ls.of (.cons .k1 (.cons .k1 .nil)))).ro (Rs.cons Mm.m0 Rs.nil)) rfl rfl ?_
  obtain ⟨r4, hr5, h⟩ := bnd_eq h
  refine .dgo rfl (.n rfl) (G.call call31 (.cons .t0 .nil) (S_narrowsref01_Wide a1 r4 hr5) .nil .nil (fun _ _ => rfl) (fun _ _ => rfl) rfl) (.inr fun _ _ _ h => (h.imp (Ls.of (.cons .k2 (.cons .k2 .nil)))).ro (Rs.cons Mm.m0 Rs.nil)) fun u6 _ => ?_
  refine .frz .k0 ?_
  obtain ⟨r7, hr8, h⟩ := bnd_eq h
  refine .dgo rfl (.n rfl) (G.call call30 (.cons .t1 (.cons .t0 (.cons .k .nil))) (S_narrowsref06_put a0 z00a u6 r4 0 r7 hr8) .nil (.cons Mm.m1 (.cons Mm.m0 .nil)) (fun _ _ => rfl) (fun _ _ => rfl) rfl) (.inr fun _ _ _ h => (h.imp (Ls.of (.cons .k1 (.cons .k1 .nil)))).ro (Rs.cons Mm.m2 Rs.nil)) fun u9 _ => ?_
  refine .oner Mm.m0 fun ho10 => ?_
  refine .dgo rfl (.n rfl) (G.str .t0 .g0 .k0 (.mk (cs' := (narrowsref06_W.cs r7 u9)) sizeOf53 rfl (onez_53 _ ho10) rfl rfl)) (.inr fun _ _ _ h => (h.imp (Ls.of (.cons .k1 (.cons .k1 .nil)))).ro (Rs.cons Mm.m2 Rs.nil)) fun _ _ => ?_
  refine .dnil ?_
  refine .then ?_
  refine .ret ?_
  cases h
  exact .finw u9 (.r1 rfl (.cell .g0 .k0 (.agg isAgg53 sizeOf53 rfl rfl))) trivial (Ls.of .nil) (.cons Mm.m0 .nil)
attribute [irreducible] narrowsref06_Wide
noncomputable def narrowsref06_Payload (a0 : Int) (a1 : ByteArray) (a2 : api_Wide) : Option ((List UInt8)) :=
  thn (if (decide (a0 < 1)) = true then true else (if (decide (a0 > 2)) = true then true else (decide ((a1.size : Int) ≠ 32)))) fun (y2 : Bool) => if y2 = true then (some ([] : List UInt8)) else (Option.bind (narrowsref06_Text (⟨[], 0⟩ : narrowsref06_W) ⟨#[97, 99, 116]⟩) fun r8 => Option.bind (narrowsref06_Num r8 a0) fun r11 => Option.bind (narrowsref06_Text r11 a1) fun r14 => Option.bind (narrowsref06_Wide r14 a2) fun r17 => some r17.B)
set_option maxRecDepth 20000 in
set_option maxHeartbeats 1000000 in
theorem S_narrowsref06_Payload (a0 : Int) (a1 : ByteArray) (a2 : api_Wide) (r : (List UInt8)) (h : narrowsref06_Payload a0 a1 a2 = some r) :
    SpecF Try.prog 7 [N a0, .string a1, Ag (api_Wide.cs a2)] [] [] (fun z : Value => True) (fun z => z) (fun z M =>  M) (fun z M => rows 1 z (r.map (fun x => [B8 x])) ::  M) := by
  refine .of func7 rfl ntmps7 rfl fun w0 D0 G0 => ?_
  unfold narrowsref06_Payload at h
  refine .seq ?_
  refine .reg rfl ?_
  refine .opx (X.box (cs := (api_Wide.cs a2)) .t2 rfl) rfl fun b1 => ?_
  refine .op0 (OpP.toV (P.asg .k)) rfl ?_
  refine .nil ?_
  refine .then ?_
  refine .seq ?_
  obtain ⟨y2, hj4, h⟩ := thn_eq h
  refine .cutx (γ := Unit) (E1 := fun z3 => [(17, Bo y2), (5, pt b1 0), (0, N a0), (1, .string a1)]) (L1 := fun z3 => [blk b1 28 (api_Wide.cs a2)]) (R1 := fun z3 => []) ?_ (fun z3 => ?_)
  · clear h
    refine .reg rfl ?_
    refine .opp (P.mov .g1) rfl ?_
    refine .opp (P.bin .t0 .k .lss) rfl ?_
    refine .opp (P.mov .t0) rfl ?_
    refine .split .k0 (fun c5 => ?_) (fun c5 => ?_)
    · rw [if_pos c5] at hj4
      refine .gno rfl .g0 rfl rfl ?_
      refine .gno rfl .g0 rfl rfl ?_
      refine .opp (P.pickT .t0 .k) rfl ?_
      refine .opp (P.mov .t0) rfl ?_
      refine .gno rfl .g0 rfl rfl ?_
      refine .gno rfl .g0 rfl rfl ?_
      refine .gno rfl .g0 rfl rfl ?_
      refine .opp (P.pickT .t0 .k) rfl ?_
      refine .nil ?_
      subst hj4
      exact .stj () (.cons Mm.m0 (.cons Mm.m1 (.cons Mm.m2 (.cons Mm.m3 .nil)))) (.of (.cons .k0 .nil)) .nil
    · rw [if_neg (ne_true_of_eq_false c5)] at hj4
      refine .gyes rfl .g0 ?_
      refine .opp (P.mov .g2) rfl ?_
      refine .gyes rfl .g1 ?_
      refine .opp (P.bin .t0 .k .gtr) rfl ?_
      refine .opp (P.pickF .t1 .t0) rfl ?_
      refine .opp (P.mov .t0) rfl ?_
      refine .split .k0 (fun c6 => ?_) (fun c6 => ?_)
      · rw [if_pos c6] at hj4
        refine .gno rfl .g0 rfl rfl ?_
        refine .gno rfl .g0 rfl rfl ?_
        refine .gno rfl .g0 rfl rfl ?_
        refine .opp (P.pickT .t0 .k) rfl ?_
        refine .nil ?_
        subst hj4
        exact .stj () (.cons Mm.m0 (.cons Mm.m1 (.cons Mm.m2 (.cons Mm.m3 .nil)))) (.of (.cons .k0 .nil)) .nil
      · rw [if_neg (ne_true_of_eq_false c6)] at hj4
        refine .gyes rfl .g0 ?_
        refine .opp (P.mov .g3) rfl ?_
        refine .gyes rfl .g1 ?_
        refine .opp (P.lens .t0 runUnderlying9) rfl ?_
        refine .gyes rfl .g1 ?_
        refine .opp (P.bin .t0 .k .neq) rfl ?_
        refine .opp (P.pickF .t1 .t0) rfl ?_
        refine .nil ?_
        subst hj4
        exact .stj () (.cons Mm.m0 (.cons Mm.m1 (.cons Mm.m2 (.cons Mm.m3 .nil)))) (.of (.cons .k0 .nil)) .nil
  · clear hj4
    refine .cond .t0 (fun c7 => ?_) (fun c7 => ?_)
    · rw [if_pos c7] at h
      refine .seq ?_
      refine .reg rfl ?_
      refine .opp (P.asg .k) rfl ?_
      refine .nil ?_
      refine .then ?_
      refine .ret ?_
      refine .thr ?_
      cases h
      refine .rnil0 1 ?_
      exact .finw nilSl (.r1 rfl (.tmp .g0)) trivial (Ls.of .nil) (.cons Mm.m0 .nil)
    · rw [if_neg (ne_true_of_eq_false c7)] at h
      refine .skip ?_
      refine .then ?_
      refine .seq ?_
      refine .draw 10 (.on 0 .pu (.on 2 .pu (.on 4 .pu (.on 6 .ld (.on 1 .go (.on 3 .go (.on 5 .go (.on 7 .go (.on 8 .pu (.on 9 .go .nl)))))))))) follows_mixed (.thn .body) (by kernel_rfl) ?_
      refine .dpu rfl (.n rfl) (P.bld (v := Ag (narrowsref06_W.cs ⟨[], 0⟩ nilSl)) .nil (bld_run zeroValue53 runUnderlying53 pl_53 (by kernel_rfl))) rfl rfl ?_
      refine .dpu rfl (.n rfl) (P.mov .t2) rfl rfl ?_
      refine .dpu rfl (.n rfl) (P.mov .t3) rfl rfl ?_
      refine .dld rfl (.n rfl) (V.ld (v := Ag (api_Wide.cs a2)) .t3 .k0 (.agg isAgg28 sizeOf28 rfl rfl)) (fun _ h => h) rfl rfl ?_
      refine .rnil0 1 ?_
      obtain ⟨r8, hr9, h⟩ := bnd_eq h
      refine .dgo rfl (.n rfl) (G.call call18 (.cons .t3 (.cons .k .nil)) (S_narrowsref06_Text (⟨[], 0⟩ : narrowsref06_W) nilSl ⟨#[97, 99, 116]⟩ r8 hr9) .nil (.cons Mm.m0 .nil) (fun _ _ => rfl) (fun _ _ => rfl) rfl) (.inr fun _ _ _ h => (h.imp (Ls.of (.cons .k0 .nil))).ro Rs.nil) fun u10 _ => ?_
      obtain ⟨r11, hr12, h⟩ := bnd_eq h
      refine .dgo rfl (.n rfl) (G.call call19 (.cons .t0 (.cons .t2 .nil)) (S_narrowsref06_Num r8 u10 a0 r11 hr12) .nil (.cons Mm.m0 .nil) (fun _ _ => rfl) (fun _ _ => rfl) rfl) (.inr fun _ _ _ h => (h.imp (Ls.of (.cons .k0 .nil))).ro Rs.nil) fun u13 _ => ?_
      obtain ⟨r14, hr15, h⟩ := bnd_eq h
      refine .dgo rfl (.n rfl) (G.call call18 (.cons .t0 (.cons .t1 .nil)) (S_narrowsref06_Text r11 u13 a1 r14 hr15) .nil (.cons Mm.m0 .nil) (fun _ _ => rfl) (fun _ _ => rfl) rfl) (.inr fun _ _ _ h => (h.imp (Ls.of (.cons .k0 .nil))).ro Rs.nil) fun u16 _ => ?_
      obtain ⟨r17, hr18, h⟩ := bnd_eq h
      refine .dgo rfl (.n rfl) (G.call call17 (.cons .t0 (.cons .t0 .nil)) (S_narrowsref06_Wide r14 u16 a2 r17 hr18) .nil (.cons Mm.m0 .nil) (fun _ _ => rfl) (fun _ _ => rfl) rfl) (.inr fun _ _ _ h => (h.imp (Ls.of (.cons .k0 .nil))).ro Rs.nil) fun u19 _ => ?_
      refine .dpu rfl (.n rfl) (P.fld (v := u19) .t0 runUnderlying53 rfl (.one isAgg40 rfl)) rfl rfl ?_
      refine .dgo rfl (.n rfl) (OpV.g (OpP.toV (P.asg .t0)) rfl) (.inr fun _ _ _ h => (h.imp (Ls.of (.cons .k0 .nil))).ro Rs.nil) fun _ _ => ?_
      refine .dnil ?_
      refine .then ?_
      refine .ret ?_
      cases h
      exact .finw u19 (.r1 rfl (.tmp .g0)) trivial (Ls.of .nil) (.cons Mm.m0 .nil)
attribute [irreducible] narrowsref06_Payload
noncomputable def narrowsref04_Digits (a0 : List UInt8) : Option ((List Int)) :=
  Option.bind (narrowsref01_Sum a0) fun r1 => Option.bind (at_ r1 0) fun (x7 : UInt8) => Option.bind (at_ r1 1) fun (x16 : UInt8) => Option.bind (at_ r1 2) fun (x25 : UInt8) => some (([IntKind.i64.wrap (Int.tdiv (x7.toNat : Int) 64), Int.tmod (IntKind.i64.wrap (Int.tdiv (x7.toNat : Int) 16)) 4, Int.tmod (IntKind.i64.wrap (Int.tdiv (x7.toNat : Int) 4)) 4, Int.tmod (x7.toNat : Int) 4, IntKind.i64.wrap (Int.tdiv (x16.toNat : Int) 64), Int.tmod (IntKind.i64.wrap (Int.tdiv (x16.toNat : Int) 16)) 4, Int.tmod (IntKind.i64.wrap (Int.tdiv (x16.toNat : Int) 4)) 4, Int.tmod (x16.toNat : Int) 4, IntKind.i64.wrap (Int.tdiv (x25.toNat : Int) 64), Int.tmod (IntKind.i64.wrap (Int.tdiv (x25.toNat : Int) 16)) 4, Int.tmod (IntKind.i64.wrap (Int.tdiv (x25.toNat : Int) 4)) 4, Int.tmod (x25.toNat : Int) 4, IntKind.i64.wrap (Int.tdiv (IntKind.i64.wrap ((IntKind.i64.wrap ((IntKind.i64.wrap ((IntKind.i64.wrap ((IntKind.i64.wrap ((IntKind.i64.wrap ((IntKind.i64.wrap ((IntKind.i64.wrap ((IntKind.i64.wrap ((IntKind.i64.wrap ((IntKind.i64.wrap ((IntKind.i64.wrap (36 - (IntKind.i64.wrap (Int.tdiv (x7.toNat : Int) 64)))) - (Int.tmod (IntKind.i64.wrap (Int.tdiv (x7.toNat : Int) 16)) 4))) - (Int.tmod (IntKind.i64.wrap (Int.tdiv (x7.toNat : Int) 4)) 4))) - (Int.tmod (x7.toNat : Int) 4))) - (IntKind.i64.wrap (Int.tdiv (x16.toNat : Int) 64)))) - (Int.tmod (IntKind.i64.wrap (Int.tdiv (x16.toNat : Int) 16)) 4))) - (Int.tmod (IntKind.i64.wrap (Int.tdiv (x16.toNat : Int) 4)) 4))) - (Int.tmod (x16.toNat : Int) 4))) - (IntKind.i64.wrap (Int.tdiv (x25.toNat : Int) 64)))) - (Int.tmod (IntKind.i64.wrap (Int.tdiv (x25.toNat : Int) 16)) 4))) - (Int.tmod (IntKind.i64.wrap (Int.tdiv (x25.toNat : Int) 4)) 4))) - (Int.tmod (x25.toNat : Int) 4))) 16), Int.tmod (IntKind.i64.wrap (Int.tdiv (IntKind.i64.wrap ((IntKind.i64.wrap ((IntKind.i64.wrap ((IntKind.i64.wrap ((IntKind.i64.wrap ((IntKind.i64.wrap ((IntKind.i64.wrap ((IntKind.i64.wrap ((IntKind.i64.wrap ((IntKind.i64.wrap ((IntKind.i64.wrap ((IntKind.i64.wrap (36 - (IntKind.i64.wrap (Int.tdiv (x7.toNat : Int) 64)))) - (Int.tmod (IntKind.i64.wrap (Int.tdiv (x7.toNat : Int) 16)) 4))) - (Int.tmod (IntKind.i64.wrap (Int.tdiv (x7.toNat : Int) 4)) 4))) - (Int.tmod (x7.toNat : Int) 4))) - (IntKind.i64.wrap (Int.tdiv (x16.toNat : Int) 64)))) - (Int.tmod (IntKind.i64.wrap (Int.tdiv (x16.toNat : Int) 16)) 4))) - (Int.tmod (IntKind.i64.wrap (Int.tdiv (x16.toNat : Int) 4)) 4))) - (Int.tmod (x16.toNat : Int) 4))) - (IntKind.i64.wrap (Int.tdiv (x25.toNat : Int) 64)))) - (Int.tmod (IntKind.i64.wrap (Int.tdiv (x25.toNat : Int) 16)) 4))) - (Int.tmod (IntKind.i64.wrap (Int.tdiv (x25.toNat : Int) 4)) 4))) - (Int.tmod (x25.toNat : Int) 4))) 4)) 4, Int.tmod (IntKind.i64.wrap ((IntKind.i64.wrap ((IntKind.i64.wrap ((IntKind.i64.wrap ((IntKind.i64.wrap ((IntKind.i64.wrap ((IntKind.i64.wrap ((IntKind.i64.wrap ((IntKind.i64.wrap ((IntKind.i64.wrap ((IntKind.i64.wrap ((IntKind.i64.wrap (36 - (IntKind.i64.wrap (Int.tdiv (x7.toNat : Int) 64)))) - (Int.tmod (IntKind.i64.wrap (Int.tdiv (x7.toNat : Int) 16)) 4))) - (Int.tmod (IntKind.i64.wrap (Int.tdiv (x7.toNat : Int) 4)) 4))) - (Int.tmod (x7.toNat : Int) 4))) - (IntKind.i64.wrap (Int.tdiv (x16.toNat : Int) 64)))) - (Int.tmod (IntKind.i64.wrap (Int.tdiv (x16.toNat : Int) 16)) 4))) - (Int.tmod (IntKind.i64.wrap (Int.tdiv (x16.toNat : Int) 4)) 4))) - (Int.tmod (x16.toNat : Int) 4))) - (IntKind.i64.wrap (Int.tdiv (x25.toNat : Int) 64)))) - (Int.tmod (IntKind.i64.wrap (Int.tdiv (x25.toNat : Int) 16)) 4))) - (Int.tmod (IntKind.i64.wrap (Int.tdiv (x25.toNat : Int) 4)) 4))) - (Int.tmod (x25.toNat : Int) 4))) 4] : List Int))
set_option maxRecDepth 20000 in
set_option maxHeartbeats 1000000 in
theorem S_narrowsref04_Digits (v00 : Value) (a0 : List UInt8) (r : (List Int)) (h : narrowsref04_Digits a0 = some r) :
    SpecF Try.prog 28 [v00] [] [rows 1 v00 (a0.map (fun x => [B8 x]))] (fun z : Value => True) (fun z => z) (fun z M => lst 3 1 z (r.map (fun x => [N x])) ::  M) (fun z M =>  M) := by
  refine .of func28 rfl ntmps28 rfl fun w0 D0 G0 => ?_
  unfold narrowsref04_Digits at h
  refine .seq ?_
  refine .reg rfl ?_
  refine .op0 (OpP.toV (P.asg .k)) rfl ?_
  refine .nil ?_
  refine .then ?_
  refine .seq ?_
  refine .reg rfl ?_
  refine .opp (P.mov .t0) rfl ?_
  obtain ⟨r1, hr2, h⟩ := bnd_eq h
  refine .opg (G.call call13 (.cons .t0 .nil) (S_narrowsref01_Sum v00 a0 r1 hr2) .nil (.cons Mm.m0 .nil) (fun _ _ => rfl) (fun _ _ => rfl) rfl) rfl fun u3 _ => ?_
  refine .opp (P.asg .t0) rfl ?_
  refine .nil ?_
  refine .then ?_
  refine .seq ?_
  refine .reg rfl ?_
  refine .opp (P.asg .k) rfl ?_
  refine .nil ?_
  refine .then ?_
  refine .seq ?_
  refine .reg rfl ?_
  refine .opp (P.asg .k) rfl ?_
  refine .nil ?_
  refine .then ?_
  refine .seq ?_
  refine .seq ?_
  refine .reg rfl ?_
  refine .opp (P.asg .k) rfl ?_
  refine .nil ?_
  refine .then ?_
  refine .block ?_
  refine .rounds 4 ?_
  refine .rd ?_
  refine .seq ?_
  refine .seq ?_
  refine .reg rfl ?_
  refine .opp (P.mov .g0) rfl ?_
  refine .opp (P.bin (v := Bo true) .t0 .k (BinV.lss.boolc (by decide))) rfl ?_
  refine .nil ?_
  refine .then ?_
  refine .condT .t0 ?_
  refine .skip ?_
  refine .then ?_
  refine .seq ?_
  refine .block ?_
  refine .seq ?_
  refine .reg rfl ?_
  refine .opp (P.mov .g3) rfl ?_
  refine .opp (P.mov .g1) rfl ?_
  obtain ⟨x7, hx8, h⟩ := bnd_eq h
  obtain ⟨i9, hi10, hx8⟩ := at_eq hx8
  have hi10_ : (0 : Int).toNat = i9 := by rw [hi10]; rfl
  refine .ixql .k0 (map_get hx8) fun p4 q5 hq6 => ?_
  refine .opp (P.ixi (i := i9) .t0 hi10 .t0 hq6 runUnderlying40 sizeOf5) rfl ?_
  refine .op (V.ldxl0 (u := B8 x7) .t0 hq6 .k0 (map_get hx8) (.one isAgg5 rfl)) rfl ?_
  refine .opp (P.cnvIB8 (x := x7) .t0 runUnderlying5 runUnderlying3) rfl ?_
  refine .opp (P.asg .t0) rfl ?_
  refine .nil ?_
  refine .then ?_
  refine .seq ?_
  refine .reg rfl ?_
  refine .opp (P.mov .g3) rfl ?_
  refine .opp (P.mov .g1) rfl ?_
  refine .opp (P.bin .t0 .k (.quo (by decide))) rfl ?_
  refine .opp (P.mov .g2) rfl ?_
  refine .opp (P.bin .t0 .k (.quo (by decide))) rfl ?_
  refine .opp (P.bin .t0 .k (.rem (by decide))) rfl ?_
  refine .opp (P.mov .g3) rfl ?_
  refine .opp (P.bin .t0 .k (.quo (by decide))) rfl ?_
  refine .opp (P.bin .t0 .k (.rem (by decide))) rfl ?_
  refine .opp (P.mov .g4) rfl ?_
  refine .opp (P.bin .t0 .k (.rem (by decide))) rfl ?_
  refine .opg (G.bsln (xs := [[N (IntKind.i64.wrap (Int.tdiv (x7.toNat : Int) 64))], [N (Int.tmod (IntKind.i64.wrap (Int.tdiv (x7.toNat : Int) 16)) 4)], [N (Int.tmod (IntKind.i64.wrap (Int.tdiv (x7.toNat : Int) 4)) 4)], [N (Int.tmod (x7.toNat : Int) 4)]]) (.cons .t3 (.cons .t2 (.cons .t1 (.cons .t0 .nil)))) runUnderlying74 sizeOf3 zeroValue3 (by kernel_rfl) rfl rfl rfl rfl rfl) rfl fun u11 _ => ?_
  refine .lnil 3 1 ?_
  refine .opg (G.app (by_ := 8) .t1 .t0 .k0 (.inr (.inr ⟨_, Mm.m0⟩)) runUnderlying74 runUnderlying74 sizeOf3 typeInfo3 rfl rfl zeroValue3 rfl rfl (Nat.le_of_ble_eq_true rfl) rfl) rfl fun u12 _ => ?_
  refine .conseq .k0 (q := lst 3 1 u12 [[N (IntKind.i64.wrap (Int.tdiv (x7.toNat : Int) 64))], [N (Int.tmod (IntKind.i64.wrap (Int.tdiv (x7.toNat : Int) 16)) 4)], [N (Int.tmod (IntKind.i64.wrap (Int.tdiv (x7.toNat : Int) 4)) 4)], [N (Int.tmod (x7.toNat : Int) 4)]]) (fun _ hh => hh) ?_
  refine .drop .k4 ?_
  refine .opp (P.asg .t0) rfl ?_
  refine .nil ?_
  refine .then ?_
  refine .reg rfl ?_
  refine .opp (P.mov .g3) rfl ?_
  refine .opp (P.mov .g2) rfl ?_
  refine .opp (P.bin .t0 .k (.quo (by decide))) rfl ?_
  refine .opp (P.bin .t1 .t0 .sub) rfl ?_
  refine .opp (P.mov .g2) rfl ?_
  refine .opp (P.bin .t0 .k (.quo (by decide))) rfl ?_
  refine .opp (P.bin .t0 .k (.rem (by decide))) rfl ?_
  refine .opp (P.bin .t1 .t0 .sub) rfl ?_
  refine .opp (P.mov .g2) rfl ?_
  refine .opp (P.bin .t0 .k (.quo (by decide))) rfl ?_
  refine .opp (P.bin .t0 .k (.rem (by decide))) rfl ?_
  refine .opp (P.bin .t1 .t0 .sub) rfl ?_
  refine .opp (P.mov .t2) rfl ?_
  refine .opp (P.bin .t0 .k (.rem (by decide))) rfl ?_
  refine .opp (P.bin .t1 .t0 .sub) rfl ?_
  refine .drop .k3 ?_
  refine .opp (P.asg .t0) rfl ?_
  refine .nil ?_
  refine .inn ?_
  refine .then ?_
  refine .reg rfl ?_
  refine .opp (P.mov .g2) rfl ?_
  refine .opp (P.bin (v := N 1) .t0 .k (.addc (by decide))) rfl ?_
  refine .drop .k3 ?_
  refine .opp (P.asg .t0) rfl ?_
  refine .nil ?_
  refine .then ?_
  refine .rd ?_
  refine .seq ?_
  refine .seq ?_
  refine .reg rfl ?_
  refine .opp (P.mov .g0) rfl ?_
  refine .opp (P.bin (v := Bo true) .t0 .k (BinV.lss.boolc (by decide))) rfl ?_
  refine .nil ?_
  refine .then ?_
  refine .condT .t0 ?_
  refine .skip ?_
  refine .then ?_
  refine .seq ?_
  refine .block ?_
  refine .seq ?_
  refine .reg rfl ?_
  refine .opp (P.mov .g3) rfl ?_
  refine .opp (P.mov .g1) rfl ?_
  obtain ⟨x16, hx17, h⟩ := bnd_eq h
  obtain ⟨i18, hi19, hx17⟩ := at_eq hx17
  have hi19_ : (1 : Int).toNat = i18 := by rw [hi19]; rfl
  refine .ixql .k2 (map_get hx17) fun p13 q14 hq15 => ?_
  refine .opp (P.ixi (i := i18) .t0 hi19 .t0 hq15 runUnderlying40 sizeOf5) rfl ?_
  refine .op (V.ldxl0 (u := B8 x16) .t0 hq15 .k2 (map_get hx17) (.one isAgg5 rfl)) rfl ?_
  refine .opp (P.cnvIB8 (x := x16) .t0 runUnderlying5 runUnderlying3) rfl ?_
  refine .opp (P.asg .t0) rfl ?_
  refine .nil ?_
  refine .then ?_
  refine .seq ?_
  refine .reg rfl ?_
  refine .opp (P.mov .g3) rfl ?_
  refine .opp (P.mov .g1) rfl ?_
  refine .opp (P.bin .t0 .k (.quo (by decide))) rfl ?_
  refine .opp (P.mov .g2) rfl ?_
  refine .opp (P.bin .t0 .k (.quo (by decide))) rfl ?_
  refine .opp (P.bin .t0 .k (.rem (by decide))) rfl ?_
  refine .opp (P.mov .g3) rfl ?_
  refine .opp (P.bin .t0 .k (.quo (by decide))) rfl ?_
  refine .opp (P.bin .t0 .k (.rem (by decide))) rfl ?_
  refine .opp (P.mov .g4) rfl ?_
  refine .opp (P.bin .t0 .k (.rem (by decide))) rfl ?_
  refine .opg (G.bsln (xs := [[N (IntKind.i64.wrap (Int.tdiv (x16.toNat : Int) 64))], [N (Int.tmod (IntKind.i64.wrap (Int.tdiv (x16.toNat : Int) 16)) 4)], [N (Int.tmod (IntKind.i64.wrap (Int.tdiv (x16.toNat : Int) 4)) 4)], [N (Int.tmod (x16.toNat : Int) 4)]]) (.cons .t3 (.cons .t2 (.cons .t1 (.cons .t0 .nil)))) runUnderlying74 sizeOf3 zeroValue3 (by kernel_rfl) rfl rfl rfl rfl rfl) rfl fun u20 _ => ?_
  refine .opg (G.app (by_ := 8) .t1 .t0 .k1 (.inr (.inr ⟨_, Mm.m0⟩)) runUnderlying74 runUnderlying74 sizeOf3 typeInfo3 rfl rfl zeroValue3 rfl rfl (Nat.le_of_ble_eq_true rfl) rfl) rfl fun u21 _ => ?_
  refine .conseq .k0 (q := lst 3 1 u21 [[N (IntKind.i64.wrap (Int.tdiv (x7.toNat : Int) 64))], [N (Int.tmod (IntKind.i64.wrap (Int.tdiv (x7.toNat : Int) 16)) 4)], [N (Int.tmod (IntKind.i64.wrap (Int.tdiv (x7.toNat : Int) 4)) 4)], [N (Int.tmod (x7.toNat : Int) 4)], [N (IntKind.i64.wrap (Int.tdiv (x16.toNat : Int) 64))], [N (Int.tmod (IntKind.i64.wrap (Int.tdiv (x16.toNat : Int) 16)) 4)], [N (Int.tmod (IntKind.i64.wrap (Int.tdiv (x16.toNat : Int) 4)) 4)], [N (Int.tmod (x16.toNat : Int) 4)]]) (fun _ hh => hh) ?_
  refine .drop .k4 ?_
  refine .opp (P.asg .t0) rfl ?_
  refine .nil ?_
  refine .then ?_
  refine .reg rfl ?_
  refine .opp (P.mov .g3) rfl ?_
  refine .opp (P.mov .g2) rfl ?_
  refine .opp (P.bin .t0 .k (.quo (by decide))) rfl ?_
  refine .opp (P.bin .t1 .t0 .sub) rfl ?_
  refine .opp (P.mov .g2) rfl ?_
  refine .opp (P.bin .t0 .k (.quo (by decide))) rfl ?_
  refine .opp (P.bin .t0 .k (.rem (by decide))) rfl ?_
  refine .opp (P.bin .t1 .t0 .sub) rfl ?_
  refine .opp (P.mov .g2) rfl ?_
  refine .opp (P.bin .t0 .k (.quo (by decide))) rfl ?_
  refine .opp (P.bin .t0 .k (.rem (by decide))) rfl ?_
  refine .opp (P.bin .t1 .t0 .sub) rfl ?_
  refine .opp (P.mov .t2) rfl ?_
  refine .opp (P.bin .t0 .k (.rem (by decide))) rfl ?_
  refine .opp (P.bin .t1 .t0 .sub) rfl ?_
  refine .drop .k3 ?_
  refine .opp (P.asg .t0) rfl ?_
  refine .nil ?_
  refine .inn ?_
  refine .then ?_
  refine .reg rfl ?_
  refine .opp (P.mov .g2) rfl ?_
  refine .opp (P.bin (v := N 2) .t0 .k (.addc (by decide))) rfl ?_
  refine .drop .k3 ?_
  refine .opp (P.asg .t0) rfl ?_
  refine .nil ?_
  refine .then ?_
  refine .rd ?_
  refine .seq ?_
  refine .seq ?_
  refine .reg rfl ?_
  refine .opp (P.mov .g0) rfl ?_
  refine .opp (P.bin (v := Bo true) .t0 .k (BinV.lss.boolc (by decide))) rfl ?_
  refine .nil ?_
  refine .then ?_
  refine .condT .t0 ?_
  refine .skip ?_
  refine .then ?_
  refine .seq ?_
  refine .block ?_
  refine .seq ?_
  refine .reg rfl ?_
  refine .opp (P.mov .g3) rfl ?_
  refine .opp (P.mov .g1) rfl ?_
  obtain ⟨x25, hx26, h⟩ := bnd_eq h
  obtain ⟨i27, hi28, hx26⟩ := at_eq hx26
  have hi28_ : (2 : Int).toNat = i27 := by rw [hi28]; rfl
  refine .ixql .k3 (map_get hx26) fun p22 q23 hq24 => ?_
  refine .opp (P.ixi (i := i27) .t0 hi28 .t0 hq24 runUnderlying40 sizeOf5) rfl ?_
  refine .op (V.ldxl0 (u := B8 x25) .t0 hq24 .k3 (map_get hx26) (.one isAgg5 rfl)) rfl ?_
  refine .opp (P.cnvIB8 (x := x25) .t0 runUnderlying5 runUnderlying3) rfl ?_
  refine .opp (P.asg .t0) rfl ?_
  refine .nil ?_
  refine .then ?_
  refine .seq ?_
  refine .reg rfl ?_
  refine .opp (P.mov .g3) rfl ?_
  refine .opp (P.mov .g1) rfl ?_
  refine .opp (P.bin .t0 .k (.quo (by decide))) rfl ?_
  refine .opp (P.mov .g2) rfl ?_
  refine .opp (P.bin .t0 .k (.quo (by decide))) rfl ?_
  refine .opp (P.bin .t0 .k (.rem (by decide))) rfl ?_
  refine .opp (P.mov .g3) rfl ?_
  refine .opp (P.bin .t0 .k (.quo (by decide))) rfl ?_
  refine .opp (P.bin .t0 .k (.rem (by decide))) rfl ?_
  refine .opp (P.mov .g4) rfl ?_
  refine .opp (P.bin .t0 .k (.rem (by decide))) rfl ?_
  refine .opg (G.bsln (xs := [[N (IntKind.i64.wrap (Int.tdiv (x25.toNat : Int) 64))], [N (Int.tmod (IntKind.i64.wrap (Int.tdiv (x25.toNat : Int) 16)) 4)], [N (Int.tmod (IntKind.i64.wrap (Int.tdiv (x25.toNat : Int) 4)) 4)], [N (Int.tmod (x25.toNat : Int) 4)]]) (.cons .t3 (.cons .t2 (.cons .t1 (.cons .t0 .nil)))) runUnderlying74 sizeOf3 zeroValue3 (by kernel_rfl) rfl rfl rfl rfl rfl) rfl fun u29 _ => ?_
  refine .opg (G.app (by_ := 8) .t1 .t0 .k1 (.inr (.inr ⟨_, Mm.m0⟩)) runUnderlying74 runUnderlying74 sizeOf3 typeInfo3 rfl rfl zeroValue3 rfl rfl (Nat.le_of_ble_eq_true rfl) rfl) rfl fun u30 _ => ?_
  refine .conseq .k0 (q := lst 3 1 u30 [[N (IntKind.i64.wrap (Int.tdiv (x7.toNat : Int) 64))], [N (Int.tmod (IntKind.i64.wrap (Int.tdiv (x7.toNat : Int) 16)) 4)], [N (Int.tmod (IntKind.i64.wrap (Int.tdiv (x7.toNat : Int) 4)) 4)], [N (Int.tmod (x7.toNat : Int) 4)], [N (IntKind.i64.wrap (Int.tdiv (x16.toNat : Int) 64))], [N (Int.tmod (IntKind.i64.wrap (Int.tdiv (x16.toNat : Int) 16)) 4)], [N (Int.tmod (IntKind.i64.wrap (Int.tdiv (x16.toNat : Int) 4)) 4)], [N (Int.tmod (x16.toNat : Int) 4)], [N (IntKind.i64.wrap (Int.tdiv (x25.toNat : Int) 64))], [N (Int.tmod (IntKind.i64.wrap (Int.tdiv (x25.toNat : Int) 16)) 4)], [N (Int.tmod (IntKind.i64.wrap (Int.tdiv (x25.toNat : Int) 4)) 4)], [N (Int.tmod (x25.toNat : Int) 4)]]) (fun _ hh => hh) ?_
  refine .drop .k4 ?_
  refine .opp (P.asg .t0) rfl ?_
  refine .nil ?_
  refine .then ?_
  refine .reg rfl ?_
  refine .opp (P.mov .g3) rfl ?_
  refine .opp (P.mov .g2) rfl ?_
  refine .opp (P.bin .t0 .k (.quo (by decide))) rfl ?_
  refine .opp (P.bin .t1 .t0 .sub) rfl ?_
  refine .opp (P.mov .g2) rfl ?_
  refine .opp (P.bin .t0 .k (.quo (by decide))) rfl ?_
  refine .opp (P.bin .t0 .k (.rem (by decide))) rfl ?_
  refine .opp (P.bin .t1 .t0 .sub) rfl ?_
  refine .opp (P.mov .g2) rfl ?_
  refine .opp (P.bin .t0 .k (.quo (by decide))) rfl ?_
  refine .opp (P.bin .t0 .k (.rem (by decide))) rfl ?_
  refine .opp (P.bin .t1 .t0 .sub) rfl ?_
  refine .opp (P.mov .t2) rfl ?_
  refine .opp (P.bin .t0 .k (.rem (by decide))) rfl ?_
  refine .opp (P.bin .t1 .t0 .sub) rfl ?_
  refine .drop .k3 ?_
  refine .opp (P.asg .t0) rfl ?_
  refine .nil ?_
  refine .inn ?_
  refine .then ?_
  refine .reg rfl ?_
  refine .opp (P.mov .g2) rfl ?_
  refine .opp (P.bin (v := N 3) .t0 .k (.addc (by decide))) rfl ?_
  refine .drop .k3 ?_
  refine .opp (P.asg .t0) rfl ?_
  refine .nil ?_
  refine .then ?_
  refine .rd ?_
  refine .seq ?_
  refine .seq ?_
  refine .reg rfl ?_
  refine .opp (P.mov .g0) rfl ?_
  refine .opp (P.bin (v := Bo false) .t0 .k (BinV.lss.boolc (by decide))) rfl ?_
  refine .nil ?_
  refine .then ?_
  refine .condF .t0 ?_
  refine .exit ?_
  refine .thx ?_
  refine .thx ?_
  refine .inb ?_
  refine .then ?_
  refine .seq ?_
  refine .reg rfl ?_
  refine .opp (P.mov .t2) rfl ?_
  refine .opp (P.mov .g2) rfl ?_
  refine .opp (P.bin .t0 .k (.quo (by decide))) rfl ?_
  refine .opp (P.mov .g3) rfl ?_
  refine .opp (P.bin .t0 .k (.quo (by decide))) rfl ?_
  refine .opp (P.bin .t0 .k (.rem (by decide))) rfl ?_
  refine .opp (P.mov .t4) rfl ?_
  refine .opp (P.bin .t0 .k (.rem (by decide))) rfl ?_
  refine .opg (G.bsln (xs := [[N (IntKind.i64.wrap (Int.tdiv (IntKind.i64.wrap ((IntKind.i64.wrap ((IntKind.i64.wrap ((IntKind.i64.wrap ((IntKind.i64.wrap ((IntKind.i64.wrap ((IntKind.i64.wrap ((IntKind.i64.wrap ((IntKind.i64.wrap ((IntKind.i64.wrap ((IntKind.i64.wrap ((IntKind.i64.wrap (36 - (IntKind.i64.wrap (Int.tdiv (x7.toNat : Int) 64)))) - (Int.tmod (IntKind.i64.wrap (Int.tdiv (x7.toNat : Int) 16)) 4))) - (Int.tmod (IntKind.i64.wrap (Int.tdiv (x7.toNat : Int) 4)) 4))) - (Int.tmod (x7.toNat : Int) 4))) - (IntKind.i64.wrap (Int.tdiv (x16.toNat : Int) 64)))) - (Int.tmod (IntKind.i64.wrap (Int.tdiv (x16.toNat : Int) 16)) 4))) - (Int.tmod (IntKind.i64.wrap (Int.tdiv (x16.toNat : Int) 4)) 4))) - (Int.tmod (x16.toNat : Int) 4))) - (IntKind.i64.wrap (Int.tdiv (x25.toNat : Int) 64)))) - (Int.tmod (IntKind.i64.wrap (Int.tdiv (x25.toNat : Int) 16)) 4))) - (Int.tmod (IntKind.i64.wrap (Int.tdiv (x25.toNat : Int) 4)) 4))) - (Int.tmod (x25.toNat : Int) 4))) 16))], [N (Int.tmod (IntKind.i64.wrap (Int.tdiv (IntKind.i64.wrap ((IntKind.i64.wrap ((IntKind.i64.wrap ((IntKind.i64.wrap ((IntKind.i64.wrap ((IntKind.i64.wrap ((IntKind.i64.wrap ((IntKind.i64.wrap ((IntKind.i64.wrap ((IntKind.i64.wrap ((IntKind.i64.wrap ((IntKind.i64.wrap (36 - (IntKind.i64.wrap (Int.tdiv (x7.toNat : Int) 64)))) - (Int.tmod (IntKind.i64.wrap (Int.tdiv (x7.toNat : Int) 16)) 4))) - (Int.tmod (IntKind.i64.wrap (Int.tdiv (x7.toNat : Int) 4)) 4))) - (Int.tmod (x7.toNat : Int) 4))) - (IntKind.i64.wrap (Int.tdiv (x16.toNat : Int) 64)))) - (Int.tmod (IntKind.i64.wrap (Int.tdiv (x16.toNat : Int) 16)) 4))) - (Int.tmod (IntKind.i64.wrap (Int.tdiv (x16.toNat : Int) 4)) 4))) - (Int.tmod (x16.toNat : Int) 4))) - (IntKind.i64.wrap (Int.tdiv (x25.toNat : Int) 64)))) - (Int.tmod (IntKind.i64.wrap (Int.tdiv (x25.toNat : Int) 16)) 4))) - (Int.tmod (IntKind.i64.wrap (Int.tdiv (x25.toNat : Int) 4)) 4))) - (Int.tmod (x25.toNat : Int) 4))) 4)) 4)], [N (Int.tmod (IntKind.i64.wrap ((IntKind.i64.wrap ((IntKind.i64.wrap ((IntKind.i64.wrap ((IntKind.i64.wrap ((IntKind.i64.wrap ((IntKind.i64.wrap ((IntKind.i64.wrap ((IntKind.i64.wrap ((IntKind.i64.wrap ((IntKind.i64.wrap ((IntKind.i64.wrap (36 - (IntKind.i64.wrap (Int.tdiv (x7.toNat : Int) 64)))) - (Int.tmod (IntKind.i64.wrap (Int.tdiv (x7.toNat : Int) 16)) 4))) - (Int.tmod (IntKind.i64.wrap (Int.tdiv (x7.toNat : Int) 4)) 4))) - (Int.tmod (x7.toNat : Int) 4))) - (IntKind.i64.wrap (Int.tdiv (x16.toNat : Int) 64)))) - (Int.tmod (IntKind.i64.wrap (Int.tdiv (x16.toNat : Int) 16)) 4))) - (Int.tmod (IntKind.i64.wrap (Int.tdiv (x16.toNat : Int) 4)) 4))) - (Int.tmod (x16.toNat : Int) 4))) - (IntKind.i64.wrap (Int.tdiv (x25.toNat : Int) 64)))) - (Int.tmod (IntKind.i64.wrap (Int.tdiv (x25.toNat : Int) 16)) 4))) - (Int.tmod (IntKind.i64.wrap (Int.tdiv (x25.toNat : Int) 4)) 4))) - (Int.tmod (x25.toNat : Int) 4))) 4)]]) (.cons .t2 (.cons .t1 (.cons .t0 .nil))) runUnderlying74 sizeOf3 zeroValue3 (by kernel_rfl) rfl rfl rfl rfl rfl) rfl fun u31 _ => ?_
  refine .opg (G.app (by_ := 8) .t1 .t0 .k1 (.inr (.inr ⟨_, Mm.m0⟩)) runUnderlying74 runUnderlying74 sizeOf3 typeInfo3 rfl rfl zeroValue3 rfl rfl (Nat.le_of_ble_eq_true rfl) rfl) rfl fun u32 _ => ?_
  refine .conseq .k0 (q := lst 3 1 u32 [[N (IntKind.i64.wrap (Int.tdiv (x7.toNat : Int) 64))], [N (Int.tmod (IntKind.i64.wrap (Int.tdiv (x7.toNat : Int) 16)) 4)], [N (Int.tmod (IntKind.i64.wrap (Int.tdiv (x7.toNat : Int) 4)) 4)], [N (Int.tmod (x7.toNat : Int) 4)], [N (IntKind.i64.wrap (Int.tdiv (x16.toNat : Int) 64))], [N (Int.tmod (IntKind.i64.wrap (Int.tdiv (x16.toNat : Int) 16)) 4)], [N (Int.tmod (IntKind.i64.wrap (Int.tdiv (x16.toNat : Int) 4)) 4)], [N (Int.tmod (x16.toNat : Int) 4)], [N (IntKind.i64.wrap (Int.tdiv (x25.toNat : Int) 64))], [N (Int.tmod (IntKind.i64.wrap (Int.tdiv (x25.toNat : Int) 16)) 4)], [N (Int.tmod (IntKind.i64.wrap (Int.tdiv (x25.toNat : Int) 4)) 4)], [N (Int.tmod (x25.toNat : Int) 4)], [N (IntKind.i64.wrap (Int.tdiv (IntKind.i64.wrap ((IntKind.i64.wrap ((IntKind.i64.wrap ((IntKind.i64.wrap ((IntKind.i64.wrap ((IntKind.i64.wrap ((IntKind.i64.wrap ((IntKind.i64.wrap ((IntKind.i64.wrap ((IntKind.i64.wrap ((IntKind.i64.wrap ((IntKind.i64.wrap (36 - (IntKind.i64.wrap (Int.tdiv (x7.toNat : Int) 64)))) - (Int.tmod (IntKind.i64.wrap (Int.tdiv (x7.toNat : Int) 16)) 4))) - (Int.tmod (IntKind.i64.wrap (Int.tdiv (x7.toNat : Int) 4)) 4))) - (Int.tmod (x7.toNat : Int) 4))) - (IntKind.i64.wrap (Int.tdiv (x16.toNat : Int) 64)))) - (Int.tmod (IntKind.i64.wrap (Int.tdiv (x16.toNat : Int) 16)) 4))) - (Int.tmod (IntKind.i64.wrap (Int.tdiv (x16.toNat : Int) 4)) 4))) - (Int.tmod (x16.toNat : Int) 4))) - (IntKind.i64.wrap (Int.tdiv (x25.toNat : Int) 64)))) - (Int.tmod (IntKind.i64.wrap (Int.tdiv (x25.toNat : Int) 16)) 4))) - (Int.tmod (IntKind.i64.wrap (Int.tdiv (x25.toNat : Int) 4)) 4))) - (Int.tmod (x25.toNat : Int) 4))) 16))], [N (Int.tmod (IntKind.i64.wrap (Int.tdiv (IntKind.i64.wrap ((IntKind.i64.wrap ((IntKind.i64.wrap ((IntKind.i64.wrap ((IntKind.i64.wrap ((IntKind.i64.wrap ((IntKind.i64.wrap ((IntKind.i64.wrap ((IntKind.i64.wrap ((IntKind.i64.wrap ((IntKind.i64.wrap ((IntKind.i64.wrap (36 - (IntKind.i64.wrap (Int.tdiv (x7.toNat : Int) 64)))) - (Int.tmod (IntKind.i64.wrap (Int.tdiv (x7.toNat : Int) 16)) 4))) - (Int.tmod (IntKind.i64.wrap (Int.tdiv (x7.toNat : Int) 4)) 4))) - (Int.tmod (x7.toNat : Int) 4))) - (IntKind.i64.wrap (Int.tdiv (x16.toNat : Int) 64)))) - (Int.tmod (IntKind.i64.wrap (Int.tdiv (x16.toNat : Int) 16)) 4))) - (Int.tmod (IntKind.i64.wrap (Int.tdiv (x16.toNat : Int) 4)) 4))) - (Int.tmod (x16.toNat : Int) 4))) - (IntKind.i64.wrap (Int.tdiv (x25.toNat : Int) 64)))) - (Int.tmod (IntKind.i64.wrap (Int.tdiv (x25.toNat : Int) 16)) 4))) - (Int.tmod (IntKind.i64.wrap (Int.tdiv (x25.toNat : Int) 4)) 4))) - (Int.tmod (x25.toNat : Int) 4))) 4)) 4)], [N (Int.tmod (IntKind.i64.wrap ((IntKind.i64.wrap ((IntKind.i64.wrap ((IntKind.i64.wrap ((IntKind.i64.wrap ((IntKind.i64.wrap ((IntKind.i64.wrap ((IntKind.i64.wrap ((IntKind.i64.wrap ((IntKind.i64.wrap ((IntKind.i64.wrap ((IntKind.i64.wrap (36 - (IntKind.i64.wrap (Int.tdiv (x7.toNat : Int) 64)))) - (Int.tmod (IntKind.i64.wrap (Int.tdiv (x7.toNat : Int) 16)) 4))) - (Int.tmod (IntKind.i64.wrap (Int.tdiv (x7.toNat : Int) 4)) 4))) - (Int.tmod (x7.toNat : Int) 4))) - (IntKind.i64.wrap (Int.tdiv (x16.toNat : Int) 64)))) - (Int.tmod (IntKind.i64.wrap (Int.tdiv (x16.toNat : Int) 16)) 4))) - (Int.tmod (IntKind.i64.wrap (Int.tdiv (x16.toNat : Int) 4)) 4))) - (Int.tmod (x16.toNat : Int) 4))) - (IntKind.i64.wrap (Int.tdiv (x25.toNat : Int) 64)))) - (Int.tmod (IntKind.i64.wrap (Int.tdiv (x25.toNat : Int) 16)) 4))) - (Int.tmod (IntKind.i64.wrap (Int.tdiv (x25.toNat : Int) 4)) 4))) - (Int.tmod (x25.toNat : Int) 4))) 4)]]) (fun _ hh => hh) ?_
  refine .opp (P.asg .t0) rfl ?_
  refine .nil ?_
  refine .then ?_
  refine .ret ?_
  cases h
  exact .finw u32 (.r1 rfl (.tmp .g0)) trivial (Ls.of (.cons .k0 .nil)) .nil
attribute [irreducible] narrowsref04_Digits
noncomputable def narrowsref01_Short (a0 : ByteArray) : Option (ByteArray) :=
  grd (a0.size ≤ 140737488355328) <| Option.bind (narrowsref01_Sum (a0.data.toList)) fun r3 => grd (okS (⟨⟨r3⟩⟩ : ByteArray).size none (some 8) none) <| some (((⟨⟨r3⟩⟩ : ByteArray).extract 0 (8 : Int).toNat))
set_option maxRecDepth 20000 in
set_option maxHeartbeats 1000000 in
theorem S_narrowsref01_Short (a0 : ByteArray) (r : ByteArray) (h : narrowsref01_Short a0 = some r) :
    SpecF Try.prog 16 [.string a0] [] [] (fun z : Unit => True) (fun z => .string r) (fun z M =>  M) (fun z M =>  M) := by
  refine .of func16 rfl ntmps16 rfl fun w0 D0 G0 => ?_
  unfold narrowsref01_Short at h
  refine .seq ?_
  refine .reg rfl ?_
  refine .op0 (OpP.toV (P.asg .k)) rfl ?_
  refine .nil ?_
  refine .then ?_
  refine .seq ?_
  refine .reg rfl ?_
  refine .opp (P.mov .t0) rfl ?_
  obtain ⟨hb2, h⟩ := grd_eq h
  refine .opg (G.s2b (e := 5) .t0 (by kernel_rfl) (by kernel_rfl) (by kernel_rfl) hb2 rfl) rfl fun u1 _ => ?_
  obtain ⟨r3, hr4, h⟩ := bnd_eq h
  refine .opg (G.call call13 (.cons .t0 .nil) (S_narrowsref01_Sum u1 (a0.data.toList) r3 hr4) .nil (.cons Mm.m0 .nil) (fun _ _ => rfl) (fun _ _ => rfl) rfl) rfl fun u5 _ => ?_
  refine .op (V.b2sl (l := r3) (e := 5) .t0 .k0 (by kernel_rfl) (by kernel_rfl) (by kernel_rfl)) rfl ?_
  obtain ⟨hb6, h⟩ := grd_eq h
  refine .opp (P.slst (li := none) (hj := (some 8)) .t0 .none (.some .k) runUnderlying9 hb6) rfl ?_
  refine .opp (P.asg .t0) rfl ?_
  refine .nil ?_
  refine .then ?_
  refine .ret ?_
  cases h
  exact .finw () (.r1 rfl (.tmp .g0)) trivial (Ls.of .nil) .nil
attribute [irreducible] narrowsref01_Short
noncomputable def narrowsref04_Walk (a0 : ByteArray) (a1 : Int) : Option (ByteArray) :=
  Option.bind (loopW (fun (s1 : Int × ByteArray) => thn (if (decide (s1.1 < a1)) = true then (decide (s1.1 < 3)) else false) fun (y10 : Bool) => if y10 = true then (Option.bind (narrowsref01_Short s1.2) fun r15 => some (.nx ((IntKind.i64.wrap (s1.1 + 1), r15)))) else (some (.br (s1.1, s1.2)))) (0, a0)) fun o3 => Lo.on o3 fun (s1 : Int × ByteArray) => some s1.2
set_option maxRecDepth 20000 in
set_option maxHeartbeats 1000000 in
theorem S_narrowsref04_Walk (a0 : ByteArray) (a1 : Int) (r : ByteArray) (h : narrowsref04_Walk a0 a1 = some r) :
    SpecF Try.prog 29 [.string a0, N a1] [] [] (fun z : Unit => True) (fun z => .string r) (fun z M =>  M) (fun z M =>  M) := by
  refine .of func29 rfl ntmps29 rfl fun w0 D0 G0 => ?_
  unfold narrowsref04_Walk at h
  refine .seq ?_
  refine .reg rfl ?_
  refine .op0 (OpP.toV (P.asg .k)) rfl ?_
  refine .nil ?_
  refine .then ?_
  refine .seq ?_
  refine .seq ?_
  refine .reg rfl ?_
  refine .opp (P.asg .k) rfl ?_
  refine .nil ?_
  refine .then ?_
  refine .block ?_
  obtain ⟨o3, ho4, h⟩ := bnd_eq h
  refine .loopW (γ := Unit) (fun (s1 : Int × ByteArray) z2 => [(5, N s1.1), (0, .string s1.2), (1, N a1)]) (fun (s1 : Int × ByteArray) z2 => []) (fun (s1 : Int × ByteArray) z2 => []) () ho4 (.cons Mm.m0 (.cons Mm.m1 (.cons Mm.m2 .nil))) (.of .nil) .nil (fun n9 s1 z2 hr7 => ?_)
  obtain ⟨ct8, hc5, hn6⟩ := loopK_at hr7
  refine .seq ?_
  obtain ⟨y10, hj12, hc5⟩ := thn_eq hc5
  refine .cutx (γ := Unit) (E1 := fun z11 => [(12, Bo y10), (5, N s1.1), (0, .string s1.2), (1, N a1)]) (L1 := fun z11 => []) (R1 := fun z11 => []) ?_ (fun z11 => ?_)
  · clear hc5
    refine .reg rfl ?_
    refine .opp (P.mov .g0) rfl ?_
    refine .opp (P.mov .g3) rfl ?_
    refine .opp (P.bin .t1 .t0 .lss) rfl ?_
    refine .opp (P.mov .t0) rfl ?_
    refine .split .k0 (fun c13 => ?_) (fun c13 => ?_)
    · rw [if_pos c13] at hj12
      refine .gyes rfl .g0 ?_
      refine .opp (P.mov .g1) rfl ?_
      refine .gyes rfl .g1 ?_
      refine .opp (P.bin .t0 .k .lss) rfl ?_
      refine .opp (P.pickT .t1 .t0) rfl ?_
      refine .nil ?_
      subst hj12
      exact .stj () (.cons Mm.m0 (.cons Mm.m1 (.cons Mm.m2 (.cons Mm.m3 .nil)))) (.of .nil) .nil
    · rw [if_neg (ne_true_of_eq_false c13)] at hj12
      refine .gno rfl .g0 rfl rfl ?_
      refine .gno rfl .g0 rfl rfl ?_
      refine .opp (P.pickF .t0 .k) rfl ?_
      refine .nil ?_
      subst hj12
      exact .stj () (.cons Mm.m0 (.cons Mm.m1 (.cons Mm.m2 (.cons Mm.m3 .nil)))) (.of .nil) .nil
  · clear hj12
    refine .cond .t0 (fun c14 => ?_) (fun c14 => ?_)
    · rw [if_pos c14] at hc5
      refine .skip ?_
      refine .then ?_
      refine .seq ?_
      refine .block ?_
      refine .reg rfl ?_
      refine .opp (P.mov .g1) rfl ?_
      obtain ⟨r15, hr16, hc5⟩ := bnd_eq hc5
      refine .opg (G.call call16 (.cons .t0 .nil) (S_narrowsref01_Short s1.2 r15 hr16) .nil .nil (fun _ _ => rfl) (fun _ _ => rfl) rfl) rfl fun _ _ => ?_
      refine .drop .k2 ?_
      refine .opp (P.asg .t0) rfl ?_
      refine .nil ?_
      refine .inn ?_
      refine .then ?_
      refine .reg rfl ?_
      refine .opp (P.mov .g1) rfl ?_
      refine .opp (P.bin .t0 .k .add) rfl ?_
      refine .drop .k2 ?_
      refine .opp (P.asg .t0) rfl ?_
      refine .nil ?_
      cases hc5
      obtain ⟨m17, hm18, hn6⟩ := hn6
      exact .rdW ((IntKind.i64.wrap (s1.1 + 1), r15)) () hm18 hn6 (.cons Mm.m0 (.cons Mm.m1 (.cons Mm.m2 .nil))) (.of .nil) .nil
    · rw [if_neg (ne_true_of_eq_false c14)] at hc5
      refine .exit ?_
      refine .thx ?_
      cases hc5
      refine .told (γ := Unit) h hn6 (fun (s1 : Int × ByteArray) _ => [(5, N s1.1), (0, .string s1.2), (1, N a1)]) (fun (s1 : Int × ByteArray) _ => []) (fun (s1 : Int × ByteArray) _ => []) () (.cons Mm.m0 (.cons Mm.m1 (.cons Mm.m2 .nil))) (.of .nil) .nil (fun s1 _ h' => ?_)
      replace h := h'
      refine .thx ?_
      refine .inb ?_
      refine .then ?_
      refine .seq ?_
      refine .reg rfl ?_
      refine .opp (P.mov .t1) rfl ?_
      refine .opp (P.asg .t0) rfl ?_
      refine .nil ?_
      refine .then ?_
      refine .ret ?_
      cases h
      exact .finw () (.r1 rfl (.tmp .g0)) trivial (Ls.of .nil) .nil
attribute [irreducible] narrowsref04_Walk
noncomputable def narrowsref04_Open (a0 : List UInt8) (a1 : List ByteArray) : Option (ByteArray) :=
  if (decide ((a1.length : Int) ≠ 15)) = true then (some ⟨#[]⟩) else (Option.bind (narrowsref04_Digits a0) fun r2 => Option.bind (loopW (fun (s5 : Int × ByteArray) => if (decide (s5.1 < 15)) = true then (Option.bind (at_ a1 s5.1) fun (x18 : ByteArray) => if (decide ((x18.size : Int) ≠ 8)) = true then (Option.map Ct.rt (some ⟨#[]⟩)) else (Option.bind (at_ a1 s5.1) fun (x28 : ByteArray) => Option.bind (at_ r2 s5.1) fun (x35 : Int) => Option.bind (narrowsref04_Walk x28 (IntKind.i64.wrap (3 - x35))) fun r39 => grd (s5.2.size + r39.size ≤ 9223372036854775807) <| some (.nx ((IntKind.i64.wrap (s5.1 + 1), s5.2 ++ r39))))) else (some (.br (s5.1, s5.2)))) (0, ⟨#[]⟩)) fun o7 => Lo.on o7 fun (s5 : Int × ByteArray) => Option.bind (narrowsref01_Short s5.2) fun r44 => some r44)
set_option maxRecDepth 20000 in
set_option maxHeartbeats 1000000 in
theorem S_narrowsref04_Open (v00 : Value) (a0 : List UInt8) (v01 : Value) (a1 : List ByteArray) (r : ByteArray) (h : narrowsref04_Open a0 a1 = some r) :
    SpecF Try.prog 15 [v00, v01] [] [rows 1 v00 (a0.map (fun x => [B8 x])), rows 1 v01 (a1.map (fun x => [.string x]))] (fun z : Unit => True) (fun z => .string r) (fun z M =>  M) (fun z M =>  M) := by
  refine .of func15 rfl ntmps15 rfl fun w0 D0 G0 => ?_
  unfold narrowsref04_Open at h
  refine .seq ?_
  refine .reg rfl ?_
  refine .op0 (OpP.toV (P.asg .k)) rfl ?_
  refine .nil ?_
  refine .then ?_
  refine .seq ?_
  refine .seq ?_
  refine .reg rfl ?_
  refine .opp (P.mov .g1) rfl ?_
  refine .op (V.lnr (n := a1.length) .t0 Mm.m1 map_len runUnderlying47) rfl ?_
  refine .opp (P.bin .t0 .k .neq) rfl ?_
  refine .nil ?_
  refine .then ?_
  refine .cond .t0 (fun c1 => ?_) (fun c1 => ?_)
  · rw [if_pos c1] at h
    refine .seq ?_
    refine .reg rfl ?_
    refine .opp (P.asg .k) rfl ?_
    refine .nil ?_
    refine .then ?_
    refine .ret ?_
    refine .thr ?_
    cases h
    exact .finw () (.r1 rfl (.tmp .g0)) trivial (Ls.of .nil) .nil
  · rw [if_neg (ne_true_of_eq_false c1)] at h
    refine .skip ?_
    refine .then ?_
    refine .seq ?_
    refine .reg rfl ?_
    refine .opp (P.mov .t0) rfl ?_
    obtain ⟨r2, hr3, h⟩ := bnd_eq h
    refine .opg (G.call call28 (.cons .t0 .nil) (S_narrowsref04_Digits v00 a0 r2 hr3) .nil (.cons Mm.m0 .nil) (fun _ _ => rfl) (fun _ _ => rfl) rfl) rfl fun u4 _ => ?_
    refine .opp (P.asg .t0) rfl ?_
    refine .nil ?_
    refine .then ?_
    refine .seq ?_
    refine .reg rfl ?_
    refine .opp (P.asg .k) rfl ?_
    refine .nil ?_
    refine .then ?_
    refine .seq ?_
    refine .seq ?_
    refine .reg rfl ?_
    refine .opp (P.asg .k) rfl ?_
    refine .nil ?_
    refine .then ?_
    refine .block ?_
    obtain ⟨o7, ho8, h⟩ := bnd_eq h
    refine .loopW (γ := Unit) (fun (s5 : Int × ByteArray) z6 => [(7, N s5.1), (6, .string s5.2), (5, u4), (1, v01)]) (fun (s5 : Int × ByteArray) z6 => [lst 3 1 u4 (r2.map (fun x => [N x]))]) (fun (s5 : Int × ByteArray) z6 => [rows 1 v01 (a1.map (fun x => [.string x])), rows 1 v00 (a0.map (fun x => [B8 x]))]) () ho8 (.cons Mm.m0 (.cons Mm.m1 (.cons Mm.m2 (.cons Mm.m3 .nil)))) (.of (.cons .k0 .nil)) (.cons Mm.m1 (.cons Mm.m0 .nil)) (fun n13 s5 z6 hr11 => ?_)
    obtain ⟨ct12, hc9, hn10⟩ := loopK_at hr11
    refine .seq ?_
    refine .seq ?_
    refine .reg rfl ?_
    refine .opp (P.mov .g0) rfl ?_
    refine .opp (P.bin .t0 .k .lss) rfl ?_
    refine .nil ?_
    refine .then ?_
    refine .cond .t0 (fun c14 => ?_) (fun c14 => ?_)
    · rw [if_pos c14] at hc9
      refine .skip ?_
      refine .then ?_
      refine .seq ?_
      refine .block ?_
      refine .seq ?_
      refine .seq ?_
      refine .reg rfl ?_
      refine .opp (P.mov .g3) rfl ?_
      refine .opp (P.mov .g1) rfl ?_
      obtain ⟨x18, hx19, hc9⟩ := bnd_eq hc9
      obtain ⟨i20, hi21, hx19⟩ := at_eq hx19
      have hi21_ : (s5.1).toNat = i20 := by rw [hi21]; rfl
      refine .ixq Mm.m0 (map_get hx19) fun p15 q16 hq17 => ?_
      refine .opp (P.ixi (i := i20) .t0 hi21 .t0 hq17 runUnderlying47 sizeOf9) rfl ?_
      refine .op (V.ldx0 (u := .string x18) .t0 hq17 Mm.m0 (map_get hx19) (.one isAgg9 rfl)) rfl ?_
      refine .opp (P.lens .t0 runUnderlying9) rfl ?_
      refine .opp (P.bin .t0 .k .neq) rfl ?_
      refine .nil ?_
      refine .then ?_
      refine .cond .t0 (fun c22 => ?_) (fun c22 => ?_)
      · rw [if_pos c22] at hc9
        refine .seq ?_
        refine .reg rfl ?_
        refine .opp (P.asg .k) rfl ?_
        refine .nil ?_
        refine .then ?_
        refine .ret ?_
        refine .thr ?_
        refine .inr ?_
        refine .thr ?_
        obtain ⟨x23, hx24, rfl⟩ := map_rt hc9
        obtain rfl := hn10
        obtain rfl := rt_on h
        refine .thr ?_
        refine .inr ?_
        refine .thr ?_
        cases hx24
        exact .finw () (.r1 rfl (.tmp .g0)) trivial (Ls.of .nil) .nil
      · rw [if_neg (ne_true_of_eq_false c22)] at hc9
        refine .skip ?_
        refine .then ?_
        refine .draw 13 (.on 0 .pu (.on 1 .pu (.on 2 .pu (.on 3 .pu (.on 5 .pu (.on 6 .pu (.on 7 .pu (.on 4 .ld (.on 8 .ld (.on 9 .pu (.on 10 .go (.on 11 .pu (.on 12 .go .nl))))))))))))) follows_mixed (.inb (.thn (.thn (.inb (.thn .body))))) (by kernel_rfl) ?_
        refine .dpu rfl (.n rfl) (P.mov .g1) rfl rfl ?_
        refine .dpu rfl (.n rfl) (P.mov .g4) rfl rfl ?_
        refine .dpu rfl (.n rfl) (P.mov .g2) rfl rfl ?_
        obtain ⟨x28, hx29, hc9⟩ := bnd_eq hc9
        obtain ⟨i30, hi31, hx29⟩ := at_eq hx29
        have hi31_ : (s5.1).toNat = i30 := by rw [hi31]; rfl
        refine .ixq Mm.m0 (map_get hx29) fun p25 q26 hq27 => ?_
        refine .dpu rfl (.n rfl) (P.ixi (i := i30) .t0 hi31 .t0 hq27 runUnderlying47 sizeOf9) rfl rfl ?_
        refine .dpu rfl (.n rfl) (P.mov .g4) rfl rfl ?_
        refine .dpu rfl (.n rfl) (P.mov .g3) rfl rfl ?_
        obtain ⟨x35, hx36, hc9⟩ := bnd_eq hc9
        obtain ⟨i37, hi38, hx36⟩ := at_eq hx36
        have hi38_ : (s5.1).toNat = i37 := by rw [hi38]; rfl
        refine .ixql .k0 (map_get hx36) fun p32 q33 hq34 => ?_
        refine .dpu rfl (.n rfl) (P.ixi (i := i37) .t0 hi38 .t0 hq34 runUnderlying74 sizeOf3) rfl rfl ?_
        refine .dld rfl (.n rfl) (V.ldx0 (u := .string x28) .t1 hq27 Mm.m0 (map_get hx29) (.one isAgg9 rfl)) (fun _ h => h) rfl rfl ?_
        refine .dld rfl (.n rfl) (V.ldxl0 (u := N x35) .t1 hq34 .k0 (map_get hx36) (.one isAgg3 rfl)) (fun _ h => h) rfl rfl ?_
        refine .dpu rfl (.n rfl) (P.bin .k .t0 .sub) rfl rfl ?_
        obtain ⟨r39, hr40, hc9⟩ := bnd_eq hc9
        refine .dgo rfl (.n rfl) (G.call call29 (.cons .t1 (.cons .t0 .nil)) (S_narrowsref04_Walk x28 (IntKind.i64.wrap (3 - x35)) r39 hr40) .nil .nil (fun _ _ => rfl) (fun _ _ => rfl) rfl) (.inr fun _ _ _ h => h) fun _ _ => ?_
        obtain ⟨hb41, hc9⟩ := grd_eq hc9
        refine .dpu rfl (.n rfl) (P.bin .t1 .t0 (.str_add hb41)) rfl rfl ?_
        refine .drop .k2 ?_
        refine .dgo rfl (.n rfl) (OpV.g (OpP.toV (P.asg .t0)) rfl) (.inr fun _ _ _ h => h) fun _ _ => ?_
        refine .dnil ?_
        refine .inn ?_
        refine .then ?_
        refine .reg rfl ?_
        refine .opp (P.mov .g1) rfl ?_
        refine .opp (P.bin .t0 .k .add) rfl ?_
        refine .drop .k2 ?_
        refine .opp (P.asg .t0) rfl ?_
        refine .nil ?_
        cases hc9
        obtain ⟨m42, hm43, hn10⟩ := hn10
        exact .rdW ((IntKind.i64.wrap (s5.1 + 1), s5.2 ++ r39)) () hm43 hn10 (.cons Mm.m0 (.cons Mm.m1 (.cons Mm.m2 (.cons Mm.m3 .nil)))) (.of (.cons .k0 .nil)) (.cons Mm.m0 (.cons Mm.m1 .nil))
    · rw [if_neg (ne_true_of_eq_false c14)] at hc9
      refine .exit ?_
      refine .thx ?_
      cases hc9
      refine .told (γ := Unit) h hn10 (fun (s5 : Int × ByteArray) _ => [(7, N s5.1), (6, .string s5.2), (5, u4), (1, v01)]) (fun (s5 : Int × ByteArray) _ => [lst 3 1 u4 (r2.map (fun x => [N x]))]) (fun (s5 : Int × ByteArray) _ => [rows 1 v01 (a1.map (fun x => [.string x])), rows 1 v00 (a0.map (fun x => [B8 x]))]) () (.cons Mm.m0 (.cons Mm.m1 (.cons Mm.m2 (.cons Mm.m3 .nil)))) (.of (.cons .k0 .nil)) (.cons Mm.m0 (.cons Mm.m1 .nil)) (fun s5 _ h' => ?_)
      replace h := h'
      refine .thx ?_
      refine .inb ?_
      refine .then ?_
      refine .seq ?_
      refine .reg rfl ?_
      refine .opp (P.mov .t1) rfl ?_
      obtain ⟨r44, hr45, h⟩ := bnd_eq h
      refine .opg (G.call call16 (.cons .t0 .nil) (S_narrowsref01_Short s5.2 r44 hr45) .nil .nil (fun _ _ => rfl) (fun _ _ => rfl) rfl) rfl fun _ _ => ?_
      refine .opp (P.asg .t0) rfl ?_
      refine .nil ?_
      refine .then ?_
      refine .ret ?_
      cases h
      exact .finw () (.r1 rfl (.tmp .g0)) trivial (Ls.of .nil) .nil
attribute [irreducible] narrowsref04_Open
noncomputable def narrowsref04_Verify (a0 : ByteArray) (a1 : List UInt8) (a2 : ByteArray) : Option (Int × Bool) :=
  Option.bind (if (decide ((a2.size : Int) ≠ 145)) = true then (some true) else (Option.bind (bat a2 0) fun (x5 : UInt8) => some (decide (x5 > 7)))) fun (y1 : Bool) => if y1 = true then (some (0, false)) else (Option.bind (loopW (fun (s10 : Int × (List ByteArray)) => if (decide (s10.1 < 18)) = true then (grd (okS a2.size (some (IntKind.i64.wrap (1 + (IntKind.i64.wrap (8 * s10.1))))) (some (IntKind.i64.wrap (9 + (IntKind.i64.wrap (8 * s10.1))))) none) <| grd ((s10.2.length + ([(a2.extract (IntKind.i64.wrap (1 + (IntKind.i64.wrap (8 * s10.1)))).toNat (IntKind.i64.wrap (9 + (IntKind.i64.wrap (8 * s10.1)))).toNat)] : List ByteArray).length) * 16 ≤ 140737488355328) <| some (.nx ((IntKind.i64.wrap (s10.1 + 1), (s10.2 ++ ([(a2.extract (IntKind.i64.wrap (1 + (IntKind.i64.wrap (8 * s10.1)))).toNat (IntKind.i64.wrap (9 + (IntKind.i64.wrap (8 * s10.1)))).toNat)] : List ByteArray)))))) else (some (.br (s10.1, s10.2)))) (0, [])) fun o12 => Lo.on o12 fun (s10 : Int × (List ByteArray)) => grd (okS s10.2.length none (some 15) none) <| Option.bind (bat a2 0) fun (x31 : UInt8) => Option.bind (narrowsref04_Open a1 (slc s10.2 0 (15 : Int).toNat)) fun r35 => Option.bind (if (decide ((Int.tmod (x31.toNat : Int) 2) = 0)) = true then (Option.bind (at_ s10.2 15) fun (x44 : ByteArray) => grd (r35.size + x44.size ≤ 9223372036854775807) <| Option.bind (narrowsref01_Short (r35 ++ x44)) fun r49 => some r49) else (Option.bind (at_ s10.2 15) fun (x54 : ByteArray) => grd (x54.size + r35.size ≤ 9223372036854775807) <| Option.bind (narrowsref01_Short (x54 ++ r35)) fun r59 => some r59)) fun (y37 : ByteArray) => Option.bind (if (decide ((Int.tmod (IntKind.i64.wrap (Int.tdiv (x31.toNat : Int) 2)) 2) = 0)) = true then (Option.bind (at_ s10.2 16) fun (x68 : ByteArray) => grd (y37.size + x68.size ≤ 9223372036854775807) <| Option.bind (narrowsref01_Short (y37 ++ x68)) fun r73 => some r73) else (Option.bind (at_ s10.2 16) fun (x78 : ByteArray) => grd (x78.size + y37.size ≤ 9223372036854775807) <| Option.bind (narrowsref01_Short (x78 ++ y37)) fun r83 => some r83)) fun (y61 : ByteArray) => Option.bind (if (decide ((Int.tmod (IntKind.i64.wrap (Int.tdiv (IntKind.i64.wrap (Int.tdiv (x31.toNat : Int) 2)) 2)) 2) = 0)) = true then (Option.bind (at_ s10.2 17) fun (x92 : ByteArray) => grd (y61.size + x92.size ≤ 9223372036854775807) <| Option.bind (narrowsref01_Short (y61 ++ x92)) fun r97 => some r97) else (Option.bind (at_ s10.2 17) fun (x102 : ByteArray) => grd (x102.size + y61.size ≤ 9223372036854775807) <| Option.bind (narrowsref01_Short (x102 ++ y61)) fun r107 => some r107)) fun (y85 : ByteArray) => if (decide (y85 ≠ a0)) = true then (some (0, false)) else (Option.bind (bat a2 0) fun (x110 : UInt8) => some (((x110.toNat : Int), true))))
set_option maxRecDepth 20000 in
set_option maxHeartbeats 1000000 in
theorem S_narrowsref04_Verify (a0 : ByteArray) (v01 : Value) (a1 : List UInt8) (a2 : ByteArray) (r : Int × Bool) (h : narrowsref04_Verify a0 a1 a2 = some r) :
    SpecF Try.prog 6 [.string a0, v01, .string a2] [] [rows 1 v01 (a1.map (fun x => [B8 x]))] (fun z : Unit => True) (fun z => Tu [N r.1, Bo r.2]) (fun z M =>  M) (fun z M =>  M) := by
  refine .of func6 rfl ntmps6 rfl fun w0 D0 G0 => ?_
  unfold narrowsref04_Verify at h
  refine .seq ?_
  refine .reg rfl ?_
  refine .op0 (OpP.toV (P.asg .k)) rfl ?_
  refine .op0 (OpP.toV (P.asg .k)) rfl ?_
  refine .nil ?_
  refine .then ?_
  refine .seq ?_
  obtain ⟨y1, hj3, h⟩ := bnd_eq h
  refine .cutx (γ := Unit) (E1 := fun z2 => [(20, Bo y1), (0, .string a0), (1, v01), (2, .string a2)]) (L1 := fun z2 => []) (R1 := fun z2 => [rows 1 v01 (a1.map (fun x => [B8 x]))]) ?_ (fun z2 => ?_)
  · clear h
    refine .reg rfl ?_
    refine .opp (P.mov .g2) rfl ?_
    refine .opp (P.lens .t0 runUnderlying9) rfl ?_
    refine .opp (P.bin .t0 .k .neq) rfl ?_
    refine .opp (P.mov .t0) rfl ?_
    refine .split .k0 (fun c4 => ?_) (fun c4 => ?_)
    · rw [if_pos c4] at hj3
      refine .gno rfl .g0 rfl rfl ?_
      refine .gno rfl .g0 rfl rfl ?_
      refine .gno rfl .g0 rfl rfl ?_
      refine .opp (P.pickT .t0 .k) rfl ?_
      refine .nil ?_
      cases hj3
      exact .stj () (.cons Mm.m0 (.cons Mm.m1 (.cons Mm.m2 (.cons Mm.m3 .nil)))) (.of .nil) (.cons Mm.m0 .nil)
    · rw [if_neg (ne_true_of_eq_false c4)] at hj3
      refine .gyes rfl .g0 ?_
      refine .opp (P.mov .g3) rfl ?_
      refine .gyes rfl .g1 ?_
      obtain ⟨x5, hx6, hj3⟩ := bnd_eq hj3
      obtain ⟨i7, hi8, hx6⟩ := bat_eq hx6
      refine .opp (P.idxs (i := i7) .t0 .k hi8 runUnderlying9 hx6) rfl ?_
      refine .gyes rfl .g1 ?_
      refine .opp (P.bin .t0 .k (BinV.gtrB8 (x := x5) (y := 7))) rfl ?_
      refine .opp (P.pickF .t1 .t0) rfl ?_
      refine .nil ?_
      cases hj3
      exact .stj () (.cons Mm.m0 (.cons Mm.m1 (.cons Mm.m2 (.cons Mm.m3 .nil)))) (.of .nil) (.cons Mm.m0 .nil)
  · clear hj3
    refine .cond .t0 (fun c9 => ?_) (fun c9 => ?_)
    · rw [if_pos c9] at h
      refine .seq ?_
      refine .reg rfl ?_
      refine .opp (P.asg .k) rfl ?_
      refine .opp (P.asg .k) rfl ?_
      refine .nil ?_
      refine .then ?_
      refine .ret ?_
      refine .thr ?_
      cases h
      exact .finw () (.r2 rfl (.tmp .g1) (.tmp .g0)) trivial (Ls.of .nil) .nil
    · rw [if_neg (ne_true_of_eq_false c9)] at h
      refine .skip ?_
      refine .then ?_
      refine .seq ?_
      refine .reg rfl ?_
      refine .opp (P.asg .k) rfl ?_
      refine .nil ?_
      refine .then ?_
      refine .seq ?_
      refine .seq ?_
      refine .reg rfl ?_
      refine .opp (P.asg .k) rfl ?_
      refine .nil ?_
      refine .then ?_
      refine .block ?_
      refine .lnil 9 1 ?_
      obtain ⟨o12, ho13, h⟩ := bnd_eq h
      refine .loopW (γ := Value) (fun (s10 : Int × (List ByteArray)) z11 => [(9, N s10.1), (8, z11), (0, .string a0), (1, v01), (2, .string a2)]) (fun (s10 : Int × (List ByteArray)) z11 => [lst 9 1 z11 (s10.2.map (fun x => [.string x]))]) (fun (s10 : Int × (List ByteArray)) z11 => [rows 1 v01 (a1.map (fun x => [B8 x]))]) nilSl ho13 (.cons Mm.m0 (.cons Mm.m1 (.cons Mm.m2 (.cons Mm.m3 (.cons Mm.m4 .nil))))) (.of (.cons .k0 .nil)) (.cons Mm.m0 .nil) (fun n18 s10 z11 hr16 => ?_)
      obtain ⟨ct17, hc14, hn15⟩ := loopK_at hr16
      refine .seq ?_
      refine .seq ?_
      refine .reg rfl ?_
      refine .opp (P.mov .g0) rfl ?_
      refine .opp (P.bin .t0 .k .lss) rfl ?_
      refine .nil ?_
      refine .then ?_
      refine .cond .t0 (fun c19 => ?_) (fun c19 => ?_)
      · rw [if_pos c19] at hc14
        refine .skip ?_
        refine .then ?_
        refine .seq ?_
        refine .block ?_
        refine .reg rfl ?_
        refine .opp (P.mov .g1) rfl ?_
        refine .opp (P.mov .g5) rfl ?_
        refine .opp (P.mov .g2) rfl ?_
        refine .opp (P.bin .k .t0 .mul) rfl ?_
        refine .opp (P.bin .k .t0 .add) rfl ?_
        refine .opp (P.mov .g3) rfl ?_
        refine .opp (P.bin .k .t0 .mul) rfl ?_
        refine .opp (P.bin .k .t0 .add) rfl ?_
        obtain ⟨hb20, hc14⟩ := grd_eq hc14
        refine .opp (P.slst (li := (some (IntKind.i64.wrap (1 + (IntKind.i64.wrap (8 * s10.1)))))) (hj := (some (IntKind.i64.wrap (9 + (IntKind.i64.wrap (8 * s10.1)))))) .t2 (.some .t1) (.some .t0) runUnderlying9 hb20) rfl ?_
        refine .opg (G.bsl (cs := [.string (a2.extract (IntKind.i64.wrap (1 + (IntKind.i64.wrap (8 * s10.1)))).toNat (IntKind.i64.wrap (9 + (IntKind.i64.wrap (8 * s10.1)))).toNat)]) .t0 runUnderlying47 sizeOf9 zeroValue9 rfl rfl rfl rfl rfl) rfl fun u21 _ => ?_
        obtain ⟨hb23, hc14⟩ := grd_eq hc14
        refine .opg (G.app (by_ := 16) .t1 .t0 .k1 (.inr (.inr ⟨_, Mm.m0⟩)) runUnderlying47 runUnderlying47 sizeOf9 typeInfo9 rfl rfl zeroValue9 rfl rfl (by simpa using hb23) rfl) rfl fun u22 _ => ?_
        refine .conseq .k0 (q := lst 9 1 u22 ((s10.2 ++ ([(a2.extract (IntKind.i64.wrap (1 + (IntKind.i64.wrap (8 * s10.1)))).toNat (IntKind.i64.wrap (9 + (IntKind.i64.wrap (8 * s10.1)))).toNat)] : List ByteArray)).map (fun x => [.string x]))) (fun _ hh => by simpa [List.map_append] using hh) ?_
        refine .drop .k2 ?_
        refine .opp (P.asg .t0) rfl ?_
        refine .nil ?_
        refine .inn ?_
        refine .then ?_
        refine .reg rfl ?_
        refine .opp (P.mov .g1) rfl ?_
        refine .opp (P.bin .t0 .k .add) rfl ?_
        refine .drop .k2 ?_
        refine .opp (P.asg .t0) rfl ?_
        refine .nil ?_
        cases hc14
        obtain ⟨m24, hm25, hn15⟩ := hn15
        exact .rdW ((IntKind.i64.wrap (s10.1 + 1), (s10.2 ++ ([(a2.extract (IntKind.i64.wrap (1 + (IntKind.i64.wrap (8 * s10.1)))).toNat (IntKind.i64.wrap (9 + (IntKind.i64.wrap (8 * s10.1)))).toNat)] : List ByteArray)))) u22 hm25 hn15 (.cons Mm.m0 (.cons Mm.m1 (.cons Mm.m2 (.cons Mm.m3 (.cons Mm.m4 .nil))))) (.of (.cons .k0 .nil)) (.cons Mm.m0 .nil)
      · rw [if_neg (ne_true_of_eq_false c19)] at hc14
        refine .exit ?_
        refine .thx ?_
        cases hc14
        refine .told (γ := Value) h hn15 (fun (s10 : Int × (List ByteArray)) z11 => [(9, N s10.1), (8, z11), (0, .string a0), (1, v01), (2, .string a2)]) (fun (s10 : Int × (List ByteArray)) z11 => [lst 9 1 z11 (s10.2.map (fun x => [.string x]))]) (fun (s10 : Int × (List ByteArray)) z11 => [rows 1 v01 (a1.map (fun x => [B8 x]))]) z11 (.cons Mm.m0 (.cons Mm.m1 (.cons Mm.m2 (.cons Mm.m3 (.cons Mm.m4 .nil))))) (.of (.cons .k0 .nil)) (.cons Mm.m0 .nil) (fun s10 z11 h' => ?_)
        replace h := h'
        refine .thx ?_
        refine .inb ?_
        refine .then ?_
        refine .seq ?_
        refine .drawl [] [rows 1 v01 (a1.map (fun x => [B8 x]))] (Ls.of .nil) (Rs.cons Mm.m0 Rs.nil) 9 (.on 0 .pu (.on 1 .pu (.on 2 .pu (.on 4 .pu (.on 5 .pu (.on 6 .pu (.on 3 .go (.on 7 .go (.on 8 .go .nl))))))))) follows_mixed (.thn .body) (by kernel_rfl) ?_
        refine .dpu rfl (.n rfl) (P.mov .t3) rfl rfl ?_
        refine .dpu rfl (.n rfl) (P.mov .g2) rfl rfl ?_
        refine .frz .k0 ?_
        obtain ⟨hb26, h⟩ := grd_eq h
        refine .slnq Mm.m0 fun hq30 => ?_
        simp only [List.length_map] at hq30
        refine .dpu rfl (.n rfl) (P.slp (li := none) (hj := (some 15)) (mk := none) .t0 .none (.some .k) .none hq30 runUnderlying47 sizeOf9 (by simpa using hb26)) rfl rfl ?_
        refine .slgen Mm.m0 (by simpa using hb26) fun u27 => ?_
        refine .rhead (q := rows 1 u27 ((slc s10.2 0 (15 : Int).toNat).map (fun x => [.string x]))) (fun _ hh => by simpa [slc_map] using hh) ?_
        refine .dpu rfl (.n rfl) (P.mov .g5) rfl rfl ?_
        obtain ⟨x31, hx32, h⟩ := bnd_eq h
        obtain ⟨i33, hi34, hx32⟩ := bat_eq hx32
        refine .dpu rfl (.n rfl) (P.idxs (i := i33) .t0 .k hi34 runUnderlying9 hx32) rfl rfl ?_
        refine .dpu rfl (.n rfl) (P.cnvIB8 (x := x31) .t0 runUnderlying5 runUnderlying3) rfl rfl ?_
        obtain ⟨r35, hr36, h⟩ := bnd_eq h
        refine .dgo rfl (.n rfl) (G.call call15 (.cons .t2 (.cons .t1 .nil)) (S_narrowsref04_Open v01 a1 u27 (slc s10.2 0 (15 : Int).toNat) r35 hr36) .nil (.cons Mm.m2 (.cons Mm.m0 .nil)) (fun _ _ => rfl) (fun _ _ => rfl) rfl) (.inr fun _ _ _ h => (h.imp (Ls.of .nil)).ro (Rs.cons Mm.m2 Rs.nil)) fun _ _ => ?_
        refine .dgo rfl (.n rfl) (OpV.g (OpP.toV (P.asg .t0)) rfl) (.inr fun _ _ _ h => (h.imp (Ls.of .nil)).ro (Rs.cons Mm.m2 Rs.nil)) fun _ _ => ?_
        refine .dgo rfl (.n rfl) (OpV.g (OpP.toV (P.asg .t1)) rfl) (.inr fun _ _ _ h => (h.imp (Ls.of .nil)).ro (Rs.cons Mm.m2 Rs.nil)) fun _ _ => ?_
        refine .dnil ?_
        refine .then ?_
        refine .seq ?_
        refine .seq ?_
        refine .reg rfl ?_
        refine .opp (P.asg .k) rfl ?_
        refine .nil ?_
        refine .then ?_
        refine .block ?_
        refine .rounds 4 ?_
        refine .rd ?_
        refine .seq ?_
        refine .seq ?_
        refine .reg rfl ?_
        refine .opp (P.mov .g0) rfl ?_
        refine .opp (P.bin (v := Bo true) .t0 .k (BinV.lss.boolc (by decide))) rfl ?_
        refine .nil ?_
        refine .then ?_
        refine .condT .t0 ?_
        refine .skip ?_
        refine .then ?_
        refine .seq ?_
        refine .block ?_
        obtain ⟨y37, hj39, h⟩ := bnd_eq h
        refine .cutx (γ := Unit) (E1 := fun z38 => [(10, .string y37), (12, N 15), (11, N (x31.toNat : Int)), (8, z11), (0, .string a0), (2, .string a2)]) (L1 := fun z38 => []) (R1 := fun z38 => [rows 1 z11 (s10.2.map (fun x => [.string x])), rows 1 v01 (a1.map (fun x => [B8 x]))]) ?_ (fun z38 => ?_)
        · clear h
          refine .seq ?_
          refine .reg rfl ?_
          refine .opp (P.mov .g1) rfl ?_
          refine .opp (P.bin .t0 .k (.rem (by decide))) rfl ?_
          refine .opp (P.bin .t0 .k .eql) rfl ?_
          refine .nil ?_
          refine .then ?_
          refine .cond .t0 (fun c40 => ?_) (fun c40 => ?_)
          · rw [if_pos c40] at hj39
            refine .reg rfl ?_
            refine .opp (P.mov .g2) rfl ?_
            refine .opp (P.mov .g5) rfl ?_
            refine .opp (P.mov .g2) rfl ?_
            obtain ⟨x44, hx45, hj39⟩ := bnd_eq hj39
            obtain ⟨i46, hi47, hx45⟩ := at_eq hx45
            have hi47_ : (15 : Int).toNat = i46 := by rw [hi47]; rfl
            refine .ixq Mm.m1 (map_get hx45) fun p41 q42 hq43 => ?_
            refine .opp (P.ixi (i := i46) .t0 hi47 .t0 hq43 runUnderlying47 sizeOf9) rfl ?_
            refine .op (V.ldx0 (u := .string x44) .t0 hq43 Mm.m1 (map_get hx45) (.one isAgg9 rfl)) rfl ?_
            obtain ⟨hb48, hj39⟩ := grd_eq hj39
            refine .opp (P.bin .t1 .t0 (.str_add hb48)) rfl ?_
            obtain ⟨r49, hr50, hj39⟩ := bnd_eq hj39
            refine .opg (G.call call16 (.cons .t0 .nil) (S_narrowsref01_Short (r35 ++ x44) r49 hr50) .nil .nil (fun _ _ => rfl) (fun _ _ => rfl) rfl) rfl fun _ _ => ?_
            refine .drop .k3 ?_
            refine .opp (P.asg .t0) rfl ?_
            refine .nil ?_
            cases hj39
            exact .stj () (.cons Mm.m0 (.cons Mm.m1 (.cons Mm.m2 (.cons Mm.m4 (.cons Mm.m5 (.cons Mm.m6 .nil)))))) (.of .nil) (.cons Mm.m1 (.cons Mm.m2 .nil))
          · rw [if_neg (ne_true_of_eq_false c40)] at hj39
            refine .reg rfl ?_
            refine .opp (P.mov .g4) rfl ?_
            refine .opp (P.mov .g1) rfl ?_
            obtain ⟨x54, hx55, hj39⟩ := bnd_eq hj39
            obtain ⟨i56, hi57, hx55⟩ := at_eq hx55
            have hi57_ : (15 : Int).toNat = i56 := by rw [hi57]; rfl
            refine .ixq Mm.m1 (map_get hx55) fun p51 q52 hq53 => ?_
            refine .opp (P.ixi (i := i56) .t0 hi57 .t0 hq53 runUnderlying47 sizeOf9) rfl ?_
            refine .op (V.ldx0 (u := .string x54) .t0 hq53 Mm.m1 (map_get hx55) (.one isAgg9 rfl)) rfl ?_
            refine .opp (P.mov .g3) rfl ?_
            obtain ⟨hb58, hj39⟩ := grd_eq hj39
            refine .opp (P.bin .t1 .t0 (.str_add hb58)) rfl ?_
            obtain ⟨r59, hr60, hj39⟩ := bnd_eq hj39
            refine .opg (G.call call16 (.cons .t0 .nil) (S_narrowsref01_Short (x54 ++ r35) r59 hr60) .nil .nil (fun _ _ => rfl) (fun _ _ => rfl) rfl) rfl fun _ _ => ?_
            refine .drop .k3 ?_
            refine .opp (P.asg .t0) rfl ?_
            refine .nil ?_
            cases hj39
            exact .stj () (.cons Mm.m0 (.cons Mm.m1 (.cons Mm.m2 (.cons Mm.m4 (.cons Mm.m5 (.cons Mm.m6 .nil)))))) (.of .nil) (.cons Mm.m1 (.cons Mm.m2 .nil))
        · clear hj39
          refine .reg rfl ?_
          refine .opp (P.mov .g2) rfl ?_
          refine .opp (P.bin .t0 .k (.quo (by decide))) rfl ?_
          refine .drop .k3 ?_
          refine .opp (P.asg .t0) rfl ?_
          refine .nil ?_
          refine .inn ?_
          refine .then ?_
          refine .reg rfl ?_
          refine .opp (P.mov .g2) rfl ?_
          refine .opp (P.bin (v := N 16) .t0 .k (.addc (by decide))) rfl ?_
          refine .drop .k3 ?_
          refine .opp (P.asg .t0) rfl ?_
          refine .nil ?_
          refine .then ?_
          refine .rd ?_
          refine .seq ?_
          refine .seq ?_
          refine .reg rfl ?_
          refine .opp (P.mov .g0) rfl ?_
          refine .opp (P.bin (v := Bo true) .t0 .k (BinV.lss.boolc (by decide))) rfl ?_
          refine .nil ?_
          refine .then ?_
          refine .condT .t0 ?_
          refine .skip ?_
          refine .then ?_
          refine .seq ?_
          refine .block ?_
          obtain ⟨y61, hj63, h⟩ := bnd_eq h
          refine .cutx (γ := Unit) (E1 := fun z62 => [(10, .string y61), (12, N 16), (11, N (IntKind.i64.wrap (Int.tdiv (x31.toNat : Int) 2))), (8, z11), (0, .string a0), (2, .string a2)]) (L1 := fun z62 => []) (R1 := fun z62 => [rows 1 z11 (s10.2.map (fun x => [.string x])), rows 1 v01 (a1.map (fun x => [B8 x]))]) ?_ (fun z62 => ?_)
          · clear h
            refine .seq ?_
            refine .reg rfl ?_
            refine .opp (P.mov .g1) rfl ?_
            refine .opp (P.bin .t0 .k (.rem (by decide))) rfl ?_
            refine .opp (P.bin .t0 .k .eql) rfl ?_
            refine .nil ?_
            refine .then ?_
            refine .cond .t0 (fun c64 => ?_) (fun c64 => ?_)
            · rw [if_pos c64] at hj63
              refine .reg rfl ?_
              refine .opp (P.mov .g2) rfl ?_
              refine .opp (P.mov .g4) rfl ?_
              refine .opp (P.mov .g2) rfl ?_
              obtain ⟨x68, hx69, hj63⟩ := bnd_eq hj63
              obtain ⟨i70, hi71, hx69⟩ := at_eq hx69
              have hi71_ : (16 : Int).toNat = i70 := by rw [hi71]; rfl
              refine .ixq Mm.m0 (map_get hx69) fun p65 q66 hq67 => ?_
              refine .opp (P.ixi (i := i70) .t0 hi71 .t0 hq67 runUnderlying47 sizeOf9) rfl ?_
              refine .op (V.ldx0 (u := .string x68) .t0 hq67 Mm.m0 (map_get hx69) (.one isAgg9 rfl)) rfl ?_
              obtain ⟨hb72, hj63⟩ := grd_eq hj63
              refine .opp (P.bin .t1 .t0 (.str_add hb72)) rfl ?_
              obtain ⟨r73, hr74, hj63⟩ := bnd_eq hj63
              refine .opg (G.call call16 (.cons .t0 .nil) (S_narrowsref01_Short (y37 ++ x68) r73 hr74) .nil .nil (fun _ _ => rfl) (fun _ _ => rfl) rfl) rfl fun _ _ => ?_
              refine .drop .k3 ?_
              refine .opp (P.asg .t0) rfl ?_
              refine .nil ?_
              cases hj63
              exact .stj () (.cons Mm.m0 (.cons Mm.m1 (.cons Mm.m2 (.cons Mm.m3 (.cons Mm.m4 (.cons Mm.m5 .nil)))))) (.of .nil) (.cons Mm.m0 (.cons Mm.m1 .nil))
            · rw [if_neg (ne_true_of_eq_false c64)] at hj63
              refine .reg rfl ?_
              refine .opp (P.mov .g3) rfl ?_
              refine .opp (P.mov .g1) rfl ?_
              obtain ⟨x78, hx79, hj63⟩ := bnd_eq hj63
              obtain ⟨i80, hi81, hx79⟩ := at_eq hx79
              have hi81_ : (16 : Int).toNat = i80 := by rw [hi81]; rfl
              refine .ixq Mm.m0 (map_get hx79) fun p75 q76 hq77 => ?_
              refine .opp (P.ixi (i := i80) .t0 hi81 .t0 hq77 runUnderlying47 sizeOf9) rfl ?_
              refine .op (V.ldx0 (u := .string x78) .t0 hq77 Mm.m0 (map_get hx79) (.one isAgg9 rfl)) rfl ?_
              refine .opp (P.mov .g3) rfl ?_
              obtain ⟨hb82, hj63⟩ := grd_eq hj63
              refine .opp (P.bin .t1 .t0 (.str_add hb82)) rfl ?_
              obtain ⟨r83, hr84, hj63⟩ := bnd_eq hj63
              refine .opg (G.call call16 (.cons .t0 .nil) (S_narrowsref01_Short (x78 ++ y37) r83 hr84) .nil .nil (fun _ _ => rfl) (fun _ _ => rfl) rfl) rfl fun _ _ => ?_
              refine .drop .k3 ?_
              refine .opp (P.asg .t0) rfl ?_
              refine .nil ?_
              cases hj63
              exact .stj () (.cons Mm.m0 (.cons Mm.m1 (.cons Mm.m2 (.cons Mm.m3 (.cons Mm.m4 (.cons Mm.m5 .nil)))))) (.of .nil) (.cons Mm.m0 (.cons Mm.m1 .nil))
          · clear hj63
            refine .reg rfl ?_
            refine .opp (P.mov .g2) rfl ?_
            refine .opp (P.bin .t0 .k (.quo (by decide))) rfl ?_
            refine .drop .k3 ?_
            refine .opp (P.asg .t0) rfl ?_
            refine .nil ?_
            refine .inn ?_
            refine .then ?_
            refine .reg rfl ?_
            refine .opp (P.mov .g2) rfl ?_
            refine .opp (P.bin (v := N 17) .t0 .k (.addc (by decide))) rfl ?_
            refine .drop .k3 ?_
            refine .opp (P.asg .t0) rfl ?_
            refine .nil ?_
            refine .then ?_
            refine .rd ?_
            refine .seq ?_
            refine .seq ?_
            refine .reg rfl ?_
            refine .opp (P.mov .g0) rfl ?_
            refine .opp (P.bin (v := Bo true) .t0 .k (BinV.lss.boolc (by decide))) rfl ?_
            refine .nil ?_
            refine .then ?_
            refine .condT .t0 ?_
            refine .skip ?_
            refine .then ?_
            refine .seq ?_
            refine .block ?_
            obtain ⟨y85, hj87, h⟩ := bnd_eq h
            refine .cutx (γ := Unit) (E1 := fun z86 => [(10, .string y85), (12, N 17), (11, N (IntKind.i64.wrap (Int.tdiv (IntKind.i64.wrap (Int.tdiv (x31.toNat : Int) 2)) 2))), (8, z11), (0, .string a0), (2, .string a2)]) (L1 := fun z86 => []) (R1 := fun z86 => [rows 1 z11 (s10.2.map (fun x => [.string x])), rows 1 v01 (a1.map (fun x => [B8 x]))]) ?_ (fun z86 => ?_)
            · clear h
              refine .seq ?_
              refine .reg rfl ?_
              refine .opp (P.mov .g1) rfl ?_
              refine .opp (P.bin .t0 .k (.rem (by decide))) rfl ?_
              refine .opp (P.bin .t0 .k .eql) rfl ?_
              refine .nil ?_
              refine .then ?_
              refine .cond .t0 (fun c88 => ?_) (fun c88 => ?_)
              · rw [if_pos c88] at hj87
                refine .reg rfl ?_
                refine .opp (P.mov .g2) rfl ?_
                refine .opp (P.mov .g4) rfl ?_
                refine .opp (P.mov .g2) rfl ?_
                obtain ⟨x92, hx93, hj87⟩ := bnd_eq hj87
                obtain ⟨i94, hi95, hx93⟩ := at_eq hx93
                have hi95_ : (17 : Int).toNat = i94 := by rw [hi95]; rfl
                refine .ixq Mm.m0 (map_get hx93) fun p89 q90 hq91 => ?_
                refine .opp (P.ixi (i := i94) .t0 hi95 .t0 hq91 runUnderlying47 sizeOf9) rfl ?_
                refine .op (V.ldx0 (u := .string x92) .t0 hq91 Mm.m0 (map_get hx93) (.one isAgg9 rfl)) rfl ?_
                obtain ⟨hb96, hj87⟩ := grd_eq hj87
                refine .opp (P.bin .t1 .t0 (.str_add hb96)) rfl ?_
                obtain ⟨r97, hr98, hj87⟩ := bnd_eq hj87
                refine .opg (G.call call16 (.cons .t0 .nil) (S_narrowsref01_Short (y61 ++ x92) r97 hr98) .nil .nil (fun _ _ => rfl) (fun _ _ => rfl) rfl) rfl fun _ _ => ?_
                refine .drop .k3 ?_
                refine .opp (P.asg .t0) rfl ?_
                refine .nil ?_
                cases hj87
                exact .stj () (.cons Mm.m0 (.cons Mm.m1 (.cons Mm.m2 (.cons Mm.m3 (.cons Mm.m4 (.cons Mm.m5 .nil)))))) (.of .nil) (.cons Mm.m0 (.cons Mm.m1 .nil))
              · rw [if_neg (ne_true_of_eq_false c88)] at hj87
                refine .reg rfl ?_
                refine .opp (P.mov .g3) rfl ?_
                refine .opp (P.mov .g1) rfl ?_
                obtain ⟨x102, hx103, hj87⟩ := bnd_eq hj87
                obtain ⟨i104, hi105, hx103⟩ := at_eq hx103
                have hi105_ : (17 : Int).toNat = i104 := by rw [hi105]; rfl
                refine .ixq Mm.m0 (map_get hx103) fun p99 q100 hq101 => ?_
                refine .opp (P.ixi (i := i104) .t0 hi105 .t0 hq101 runUnderlying47 sizeOf9) rfl ?_
                refine .op (V.ldx0 (u := .string x102) .t0 hq101 Mm.m0 (map_get hx103) (.one isAgg9 rfl)) rfl ?_
                refine .opp (P.mov .g3) rfl ?_
                obtain ⟨hb106, hj87⟩ := grd_eq hj87
                refine .opp (P.bin .t1 .t0 (.str_add hb106)) rfl ?_
                obtain ⟨r107, hr108, hj87⟩ := bnd_eq hj87
                refine .opg (G.call call16 (.cons .t0 .nil) (S_narrowsref01_Short (x102 ++ y61) r107 hr108) .nil .nil (fun _ _ => rfl) (fun _ _ => rfl) rfl) rfl fun _ _ => ?_
                refine .drop .k3 ?_
                refine .opp (P.asg .t0) rfl ?_
                refine .nil ?_
                cases hj87
                exact .stj () (.cons Mm.m0 (.cons Mm.m1 (.cons Mm.m2 (.cons Mm.m3 (.cons Mm.m4 (.cons Mm.m5 .nil)))))) (.of .nil) (.cons Mm.m0 (.cons Mm.m1 .nil))
            · clear hj87
              refine .reg rfl ?_
              refine .opp (P.mov .g2) rfl ?_
              refine .opp (P.bin .t0 .k (.quo (by decide))) rfl ?_
              refine .drop .k3 ?_
              refine .opp (P.asg .t0) rfl ?_
              refine .nil ?_
              refine .inn ?_
              refine .then ?_
              refine .reg rfl ?_
              refine .opp (P.mov .g2) rfl ?_
              refine .opp (P.bin (v := N 18) .t0 .k (.addc (by decide))) rfl ?_
              refine .drop .k3 ?_
              refine .opp (P.asg .t0) rfl ?_
              refine .nil ?_
              refine .then ?_
              refine .rd ?_
              refine .seq ?_
              refine .seq ?_
              refine .reg rfl ?_
              refine .opp (P.mov .g0) rfl ?_
              refine .opp (P.bin (v := Bo false) .t0 .k (BinV.lss.boolc (by decide))) rfl ?_
              refine .nil ?_
              refine .then ?_
              refine .condF .t0 ?_
              refine .exit ?_
              refine .thx ?_
              refine .thx ?_
              refine .inb ?_
              refine .then ?_
              refine .seq ?_
              refine .seq ?_
              refine .reg rfl ?_
              refine .opp (P.mov .t2) rfl ?_
              refine .opp (P.mov .t4) rfl ?_
              refine .opp (P.bin .t1 .t0 .str_neq) rfl ?_
              refine .nil ?_
              refine .then ?_
              refine .cond .t0 (fun c109 => ?_) (fun c109 => ?_)
              · rw [if_pos c109] at h
                refine .seq ?_
                refine .reg rfl ?_
                refine .opp (P.asg .k) rfl ?_
                refine .opp (P.asg .k) rfl ?_
                refine .nil ?_
                refine .then ?_
                refine .ret ?_
                refine .thr ?_
                cases h
                exact .finw () (.r2 rfl (.tmp .g1) (.tmp .g0)) trivial (Ls.of .nil) .nil
              · rw [if_neg (ne_true_of_eq_false c109)] at h
                refine .skip ?_
                refine .then ?_
                refine .seq ?_
                refine .reg rfl ?_
                refine .opp (P.mov .t3) rfl ?_
                obtain ⟨x110, hx111, h⟩ := bnd_eq h
                obtain ⟨i112, hi113, hx111⟩ := bat_eq hx111
                refine .opp (P.idxs (i := i112) .t0 .k hi113 runUnderlying9 hx111) rfl ?_
                refine .opp (P.cnvIB8 (x := x110) .t0 runUnderlying5 runUnderlying3) rfl ?_
                refine .opp (P.asg .t0) rfl ?_
                refine .opp (P.asg .k) rfl ?_
                refine .nil ?_
                refine .then ?_
                refine .ret ?_
                cases h
                exact .finw () (.r2 rfl (.tmp .g1) (.tmp .g0)) trivial (Ls.of .nil) .nil
attribute [irreducible] narrowsref04_Verify
noncomputable def deal_in (a0 : Int) (a1 : Int) (a2 : Int) : Bool :=
  thn (if (decide (a0 ≥ a1)) = true then (decide (a0 ≤ a2)) else false) fun (y1 : Bool) => y1
set_option maxRecDepth 20000 in
set_option maxHeartbeats 1000000 in
theorem S_deal_in (a0 : Int) (a1 : Int) (a2 : Int) (r : Bool) (h : deal_in a0 a1 a2 = r) :
    SpecF Try.prog 52 [N a0, N a1, N a2] [] [] (fun z : Unit => True) (fun z => Bo r) (fun z M =>  M) (fun z M =>  M) := by
  refine .of func52 rfl ntmps52 rfl fun w0 D0 G0 => ?_
  unfold deal_in at h
  refine .seq ?_
  refine .reg rfl ?_
  refine .op0 (OpP.toV (P.asg .k)) rfl ?_
  refine .nil ?_
  refine .then ?_
  obtain ⟨y1, hj3, h⟩ := thn_eq h
  refine .cutx (γ := Unit) (E1 := fun z2 => [(6, Bo y1)]) (L1 := fun z2 => []) (R1 := fun z2 => []) ?_ (fun z2 => ?_)
  · clear h
    refine .reg rfl ?_
    refine .opp (P.mov .g0) rfl ?_
    refine .opp (P.mov .t2) rfl ?_
    refine .opp (P.bin .t1 .t0 .geq) rfl ?_
    refine .opp (P.mov .t0) rfl ?_
    refine .split .k0 (fun c4 => ?_) (fun c4 => ?_)
    · rw [if_pos c4] at hj3
      refine .gyes rfl .g0 ?_
      refine .opp (P.mov .t1) rfl ?_
      refine .gyes rfl .g1 ?_
      refine .opp (P.mov .t2) rfl ?_
      refine .gyes rfl .g2 ?_
      refine .opp (P.bin .t1 .t0 .leq) rfl ?_
      refine .opp (P.pickT .t1 .t0) rfl ?_
      refine .opp (P.asg .t0) rfl ?_
      refine .nil ?_
      subst hj3
      exact .stj () (.cons Mm.m0 .nil) (.of .nil) .nil
    · rw [if_neg (ne_true_of_eq_false c4)] at hj3
      refine .gno rfl .g0 rfl rfl ?_
      refine .gno rfl .g0 rfl rfl ?_
      refine .gno rfl .g0 rfl rfl ?_
      refine .opp (P.pickF .t0 .k) rfl ?_
      refine .opp (P.asg .t0) rfl ?_
      refine .nil ?_
      subst hj3
      exact .stj () (.cons Mm.m0 .nil) (.of .nil) .nil
  · clear hj3
    refine .ret ?_
    subst h
    exact .finw () (.r1 rfl (.tmp .g0)) trivial (Ls.of .nil) .nil
attribute [irreducible] deal_in
noncomputable def deal_Check (a0 : api_Inv) : Int :=
  thn (if (deal_in a0.User 0 1) = true then (if (deal_in a0.Router 2 3) = true then (if (deal_in a0.Send 0 1) = true then (deal_in a0.Recv 0 1) else false) else false) else false) fun (y2 : Bool) => thn (if (!y2) = true then true else (if (!(deal_in a0.To 0 7)) = true then true else (if (decide ((a0.Root.size : Int) ≠ 8)) = true then true else (!(deal_in (a0.Id.size : Int) 1 16))))) fun (y8 : Bool) => if y8 = true then 39 else 0
set_option maxRecDepth 20000 in
set_option maxHeartbeats 1000000 in
theorem S_deal_Check (a0 : api_Inv) (r : Int) (h : deal_Check a0 = r) :
    SpecF Try.prog 43 [Ag (api_Inv.cs a0)] [] [] (fun z : Unit => True) (fun z => N r) (fun z M =>  M) (fun z M =>  M) := by
  refine .of func43 rfl ntmps43 rfl fun w0 D0 G0 => ?_
  unfold deal_Check at h
  refine .seq ?_
  refine .reg rfl ?_
  refine .opx (X.box (cs := (api_Inv.cs a0)) .t0 rfl) rfl fun b1 => ?_
  refine .op0 (OpP.toV (P.asg .k)) rfl ?_
  refine .nil ?_
  refine .then ?_
  obtain ⟨y2, hj4, h⟩ := thn_eq h
  refine .cutx (γ := Unit) (E1 := fun z3 => [(3, Bo y2), (1, pt b1 0)]) (L1 := fun z3 => [blk b1 30 (api_Inv.cs a0)]) (R1 := fun z3 => []) ?_ (fun z3 => ?_)
  · clear h
    refine .reg rfl ?_
    refine .opp (P.fa .g0 fa_30_0 rfl) rfl ?_
    refine .op (V.ld (v := N a0.User) .t0 .k0 (.one isAgg3 rfl)) rfl ?_
    refine .opg (G.call call52 (.cons .t0 (.cons .k (.cons .k .nil))) (S_deal_in a0.User 0 1 _ rfl) .nil .nil (fun _ _ => rfl) (fun _ _ => rfl) rfl) rfl fun _ _ => ?_
    refine .opp (P.mov .t0) rfl ?_
    refine .split .k0 (fun c5 => ?_) (fun c5 => ?_)
    · rw [if_pos c5] at hj4
      refine .gyes rfl .g0 ?_
      refine .opp (P.fa .g1 fa_30_2 rfl) rfl ?_
      refine .gyes rfl .g1 ?_
      refine .op (V.ld (v := N a0.Router) .t0 .k0 (.one isAgg3 rfl)) rfl ?_
      refine .gyes rfl .g1 ?_
      refine .opg (G.call call52 (.cons .t0 (.cons .k (.cons .k .nil))) (S_deal_in a0.Router 2 3 _ rfl) .nil .nil (fun _ _ => rfl) (fun _ _ => rfl) rfl) rfl fun _ _ => ?_
      refine .opp (P.pickT .t1 .t0) rfl ?_
      refine .opp (P.mov .t0) rfl ?_
      refine .split .k0 (fun c6 => ?_) (fun c6 => ?_)
      · rw [if_pos c6] at hj4
        refine .gyes rfl .g0 ?_
        refine .opp (P.fa .g1 fa_30_3 rfl) rfl ?_
        refine .gyes rfl .g1 ?_
        refine .op (V.ld (v := N a0.Send) .t0 .k0 (.one isAgg3 rfl)) rfl ?_
        refine .gyes rfl .g1 ?_
        refine .opg (G.call call52 (.cons .t0 (.cons .k (.cons .k .nil))) (S_deal_in a0.Send 0 1 _ rfl) .nil .nil (fun _ _ => rfl) (fun _ _ => rfl) rfl) rfl fun _ _ => ?_
        refine .opp (P.pickT .t1 .t0) rfl ?_
        refine .opp (P.mov .t0) rfl ?_
        refine .split .k0 (fun c7 => ?_) (fun c7 => ?_)
        · rw [if_pos c7] at hj4
          refine .gyes rfl .g0 ?_
          refine .opp (P.fa .g1 fa_30_4 rfl) rfl ?_
          refine .gyes rfl .g1 ?_
          refine .op (V.ld (v := N a0.Recv) .t0 .k0 (.one isAgg3 rfl)) rfl ?_
          refine .gyes rfl .g1 ?_
          refine .opg (G.call call52 (.cons .t0 (.cons .k (.cons .k .nil))) (S_deal_in a0.Recv 0 1 _ rfl) .nil .nil (fun _ _ => rfl) (fun _ _ => rfl) rfl) rfl fun _ _ => ?_
          refine .opp (P.pickT .t1 .t0) rfl ?_
          refine .opp (P.asg .t0) rfl ?_
          refine .nil ?_
          subst hj4
          exact .stj () (.cons Mm.m0 (.cons Mm.m1 .nil)) (.of (.cons .k0 .nil)) .nil
        · rw [if_neg (ne_true_of_eq_false c7)] at hj4
          refine .gno rfl .g0 rfl rfl ?_
          refine .gno rfl .g0 rfl rfl ?_
          refine .gno rfl .g0 rfl rfl ?_
          refine .opp (P.pickF .t0 .k) rfl ?_
          refine .opp (P.asg .t0) rfl ?_
          refine .nil ?_
          subst hj4
          exact .stj () (.cons Mm.m0 (.cons Mm.m1 .nil)) (.of (.cons .k0 .nil)) .nil
      · rw [if_neg (ne_true_of_eq_false c6)] at hj4
        refine .gno rfl .g0 rfl rfl ?_
        refine .gno rfl .g0 rfl rfl ?_
        refine .gno rfl .g0 rfl rfl ?_
        refine .opp (P.pickF .t0 .k) rfl ?_
        refine .opp (P.mov .t0) rfl ?_
        refine .gno rfl .g0 rfl rfl ?_
        refine .gno rfl .g0 rfl rfl ?_
        refine .gno rfl .g0 rfl rfl ?_
        refine .opp (P.pickF .t0 .k) rfl ?_
        refine .opp (P.asg .t0) rfl ?_
        refine .nil ?_
        subst hj4
        exact .stj () (.cons Mm.m0 (.cons Mm.m1 .nil)) (.of (.cons .k0 .nil)) .nil
    · rw [if_neg (ne_true_of_eq_false c5)] at hj4
      refine .gno rfl .g0 rfl rfl ?_
      refine .gno rfl .g0 rfl rfl ?_
      refine .gno rfl .g0 rfl rfl ?_
      refine .opp (P.pickF .t0 .k) rfl ?_
      refine .opp (P.mov .t0) rfl ?_
      refine .gno rfl .g0 rfl rfl ?_
      refine .gno rfl .g0 rfl rfl ?_
      refine .gno rfl .g0 rfl rfl ?_
      refine .opp (P.pickF .t0 .k) rfl ?_
      refine .opp (P.mov .t0) rfl ?_
      refine .gno rfl .g0 rfl rfl ?_
      refine .gno rfl .g0 rfl rfl ?_
      refine .gno rfl .g0 rfl rfl ?_
      refine .opp (P.pickF .t0 .k) rfl ?_
      refine .opp (P.asg .t0) rfl ?_
      refine .nil ?_
      subst hj4
      exact .stj () (.cons Mm.m0 (.cons Mm.m1 .nil)) (.of (.cons .k0 .nil)) .nil
  · clear hj4
    refine .seq ?_
    obtain ⟨y8, hj10, h⟩ := thn_eq h
    refine .cutx (γ := Unit) (E1 := fun z9 => [(42, Bo y8)]) (L1 := fun z9 => []) (R1 := fun z9 => []) ?_ (fun z9 => ?_)
    · clear h
      refine .reg rfl ?_
      refine .opp (P.mov .t0) rfl ?_
      refine .opp (P.not .t0) rfl ?_
      refine .opp (P.mov .t0) rfl ?_
      refine .split .k0 (fun c11 => ?_) (fun c11 => ?_)
      · rw [if_pos c11] at hj10
        refine .gno rfl .g0 rfl rfl ?_
        refine .gno rfl .g0 rfl rfl ?_
        refine .gno rfl .g0 rfl rfl ?_
        refine .gno rfl .g0 rfl rfl ?_
        refine .opp (P.pickT .t0 .k) rfl ?_
        refine .opp (P.mov .t0) rfl ?_
        refine .gno rfl .g0 rfl rfl ?_
        refine .gno rfl .g0 rfl rfl ?_
        refine .gno rfl .g0 rfl rfl ?_
        refine .gno rfl .g0 rfl rfl ?_
        refine .opp (P.pickT .t0 .k) rfl ?_
        refine .opp (P.mov .t0) rfl ?_
        refine .gno rfl .g0 rfl rfl ?_
        refine .gno rfl .g0 rfl rfl ?_
        refine .gno rfl .g0 rfl rfl ?_
        refine .gno rfl .g0 rfl rfl ?_
        refine .gno rfl .g0 rfl rfl ?_
        refine .opp (P.pickT .t0 .k) rfl ?_
        refine .nil ?_
        subst hj10
        exact .stj () (.cons Mm.m0 .nil) (.of .nil) .nil
      · rw [if_neg (ne_true_of_eq_false c11)] at hj10
        refine .gyes rfl .g0 ?_
        refine .opp (P.fa .g1 fa_30_5 rfl) rfl ?_
        refine .gyes rfl .g1 ?_
        refine .op (V.ld (v := N a0.To) .t0 .k0 (.one isAgg3 rfl)) rfl ?_
        refine .gyes rfl .g1 ?_
        refine .opg (G.call call52 (.cons .t0 (.cons .k (.cons .k .nil))) (S_deal_in a0.To 0 7 _ rfl) .nil .nil (fun _ _ => rfl) (fun _ _ => rfl) rfl) rfl fun _ _ => ?_
        refine .gyes rfl .g1 ?_
        refine .opp (P.not .t0) rfl ?_
        refine .opp (P.pickF .t1 .t0) rfl ?_
        refine .opp (P.mov .t0) rfl ?_
        refine .split .k0 (fun c12 => ?_) (fun c12 => ?_)
        · rw [if_pos c12] at hj10
          refine .gno rfl .g0 rfl rfl ?_
          refine .gno rfl .g0 rfl rfl ?_
          refine .gno rfl .g0 rfl rfl ?_
          refine .gno rfl .g0 rfl rfl ?_
          refine .opp (P.pickT .t0 .k) rfl ?_
          refine .opp (P.mov .t0) rfl ?_
          refine .gno rfl .g0 rfl rfl ?_
          refine .gno rfl .g0 rfl rfl ?_
          refine .gno rfl .g0 rfl rfl ?_
          refine .gno rfl .g0 rfl rfl ?_
          refine .gno rfl .g0 rfl rfl ?_
          refine .opp (P.pickT .t0 .k) rfl ?_
          refine .nil ?_
          subst hj10
          exact .stj () (.cons Mm.m0 .nil) (.of .nil) .nil
        · rw [if_neg (ne_true_of_eq_false c12)] at hj10
          refine .gyes rfl .g0 ?_
          refine .opp (P.fa .g1 fa_30_1 rfl) rfl ?_
          refine .gyes rfl .g1 ?_
          refine .op (V.ld (v := .string a0.Root) .t0 .k0 (.one isAgg9 rfl)) rfl ?_
          refine .gyes rfl .g1 ?_
          refine .opp (P.lens .t0 runUnderlying9) rfl ?_
          refine .gyes rfl .g1 ?_
          refine .opp (P.bin .t0 .k .neq) rfl ?_
          refine .opp (P.pickF .t1 .t0) rfl ?_
          refine .opp (P.mov .t0) rfl ?_
          refine .split .k0 (fun c13 => ?_) (fun c13 => ?_)
          · rw [if_pos c13] at hj10
            refine .gno rfl .g0 rfl rfl ?_
            refine .gno rfl .g0 rfl rfl ?_
            refine .gno rfl .g0 rfl rfl ?_
            refine .gno rfl .g0 rfl rfl ?_
            refine .gno rfl .g0 rfl rfl ?_
            refine .opp (P.pickT .t0 .k) rfl ?_
            refine .nil ?_
            subst hj10
            exact .stj () (.cons Mm.m0 .nil) (.of .nil) .nil
          · rw [if_neg (ne_true_of_eq_false c13)] at hj10
            refine .gyes rfl .g0 ?_
            refine .opp (P.fa .t1 fa_30_6 rfl) rfl ?_
            refine .gyes rfl .g1 ?_
            refine .op (V.ld (v := .string a0.Id) .t0 .k0 (.one isAgg9 rfl)) rfl ?_
            refine .gyes rfl .g1 ?_
            refine .opp (P.lens .t0 runUnderlying9) rfl ?_
            refine .gyes rfl .g1 ?_
            refine .opg (G.call call52 (.cons .t0 (.cons .k (.cons .k .nil))) (S_deal_in (a0.Id.size : Int) 1 16 _ rfl) .nil .nil (fun _ _ => rfl) (fun _ _ => rfl) rfl) rfl fun _ _ => ?_
            refine .gyes rfl .g1 ?_
            refine .opp (P.not .t0) rfl ?_
            refine .opp (P.pickF .t1 .t0) rfl ?_
            refine .nil ?_
            subst hj10
            exact .stj () (.cons Mm.m0 .nil) (.of .nil) .nil
    · clear hj10
      refine .cond .t0 (fun c14 => ?_) (fun c14 => ?_)
      · rw [if_pos c14] at h
        refine .seq ?_
        refine .reg rfl ?_
        refine .opp (P.asg .k) rfl ?_
        refine .nil ?_
        refine .then ?_
        refine .ret ?_
        refine .thr ?_
        subst h
        exact .finw () (.r1 rfl (.tmp .g0)) trivial (Ls.of .nil) .nil
      · rw [if_neg (ne_true_of_eq_false c14)] at h
        refine .skip ?_
        refine .then ?_
        refine .seq ?_
        refine .reg rfl ?_
        refine .opp (P.asg .k) rfl ?_
        refine .nil ?_
        refine .then ?_
        refine .ret ?_
        subst h
        exact .finw () (.r1 rfl (.tmp .g0)) trivial (Ls.of .nil) .nil
attribute [irreducible] deal_Check
noncomputable def field_New  : field_Out :=
  (⟨[], 0, true⟩ : field_Out)
set_option maxRecDepth 20000 in
set_option maxHeartbeats 1000000 in
theorem S_field_New  (r : field_Out) (h : field_New  = r) :
    SpecF Try.prog 44 [] [] [] (fun z : Nat × Value => True) (fun z => pt z.1 0) (fun z M => blk z.1 105 (field_Out.cs r z.2) :: lst 5 1 z.2 (r.b.map (fun x => [B8 x])) ::  M) (fun z M =>  M) := by
  refine .of func44 rfl ntmps44 rfl fun w0 D0 G0 => ?_
  unfold field_New at h
  refine .seq ?_
  refine .reg rfl ?_
  refine .op0 (OpP.toV (P.asg .k)) rfl ?_
  refine .nil ?_
  refine .then ?_
  refine .seq ?_
  refine .reg rfl ?_
  refine .opp (P.bld (v := Ag (field_Out.cs ⟨[], 0, true⟩ nilSl)) (.cons .k .nil) (bld_run zeroValue105 runUnderlying105 pl_105 (by kernel_rfl))) rfl ?_
  refine .opx (X.box (cs := (field_Out.cs ⟨[], 0, true⟩ nilSl)) .t0 rfl) rfl fun b1 => ?_
  refine .opp (P.asg .t0) rfl ?_
  refine .nil ?_
  refine .then ?_
  refine .ret ?_
  subst h
  refine .lnil 5 1 ?_
  exact .finw ⟨b1, nilSl⟩ (.r1 rfl (.tmp .g0)) trivial (Ls.of (.cons .k1 (.cons .k0 .nil))) .nil
attribute [irreducible] field_New
noncomputable def slices_Backward_byte  : Unit :=
  ()
set_option maxRecDepth 20000 in
set_option maxHeartbeats 1000000 in
theorem S_slices_Backward_byte (v00 : Value) (hv00 : IsSl v00) (r : Unit) (h : slices_Backward_byte  = r) :
    SpecF Try.prog 82 [v00] [] [] (fun z : Nat => True) (fun z => fnv 87 [pt z 0]) (fun z M => blk z 40 [v00] ::  M) (fun z M =>  M) := by
  refine .of func82 rfl ntmps82 rfl fun w0 D0 G0 => ?_
  unfold slices_Backward_byte at h
  refine .seq ?_
  refine .reg rfl ?_
  refine .opx (X.box (cs := [v00]) .t0 hv00.cells) rfl fun b1 => ?_
  refine .op0 (OpP.toV (P.asg .k)) rfl ?_
  refine .nil ?_
  refine .then ?_
  refine .seq ?_
  refine .reg rfl ?_
  refine .opp (P.mkf (.cons .t0 .nil)) rfl ?_
  refine .opp (P.asg .t0) rfl ?_
  refine .nil ?_
  refine .then ?_
  refine .ret ?_
  subst h
  exact .finw b1 (.r1 rfl (.tmp .g0)) trivial (Ls.of (.cons .k0 .nil)) .nil
attribute [irreducible] slices_Backward_byte
noncomputable def blob_Num (a0 : Int) (a1 : Int) : Option ((List UInt8)) :=
  grd (0 ≤ (if 8 < (if 0 > a1 then 0 else a1) then 8 else if 0 > a1 then 0 else a1) ∧ (if 8 < (if 0 > a1 then 0 else a1) then 8 else if 0 > a1 then 0 else a1) * 1 ≤ 140737488355328) <| Option.bind (loopW (fun (s14 : Int × (List UInt8) × (List UInt8) × Int) => if (decide (s14.1 ≥ 0)) = true then (Option.bind (at_ s14.2.1 s14.1) fun (x27 : UInt8) => Option.bind (at_ s14.2.1 s14.1) fun (x36 : UInt8) => some (.nx ((IntKind.i64.wrap (s14.1 - 1), (s14.2.1.set (s14.1).toNat (B8i s14.2.2.2 : UInt8)), (s14.2.1.set (s14.1).toNat (B8i s14.2.2.2 : UInt8)), shrK .i64 s14.2.2.2 8)))) else (some (.br (s14.1, s14.2.1, s14.2.1, s14.2.2.2)))) ((IntKind.i64.wrap (((List.replicate (if 8 < (if 0 > a1 then 0 else a1) then 8 else if 0 > a1 then 0 else a1).toNat (0 : UInt8)).length : Int) - 1), (List.replicate (if 8 < (if 0 > a1 then 0 else a1) then 8 else if 0 > a1 then 0 else a1).toNat (0 : UInt8)), (List.replicate (if 8 < (if 0 > a1 then 0 else a1) then 8 else if 0 > a1 then 0 else a1).toNat (0 : UInt8)), a0))) fun o16 => Lo.on o16 fun (s14 : Int × (List UInt8) × (List UInt8) × Int) => some s14.2.1
set_option maxRecDepth 20000 in
set_option maxHeartbeats 1000000 in
theorem S_blob_Num (a0 : Int) (a1 : Int) (r : (List UInt8)) (h : blob_Num a0 a1 = some r) :
    SpecF Try.prog 68 [N a0, N a1] [] [] (fun z : Value => True) (fun z => z) (fun z M => lst 5 1 z (r.map (fun x => [B8 x])) ::  M) (fun z M =>  M) := by
  refine .of func68 rfl ntmps68 rfl fun w0 D0 G0 => ?_
  unfold blob_Num at h
  refine .seq ?_
  refine .reg rfl ?_
  refine .opx (X.box (cs := [N a0]) .t0 rfl) rfl fun b1 => ?_
  refine .op0 (OpP.toV (P.asg .k)) rfl ?_
  refine .nil ?_
  refine .then ?_
  refine .seq ?_
  refine .reg rfl ?_
  refine .opp (P.mov .t1) rfl ?_
  refine .opp (P.max2 .t0 .k) rfl ?_
  refine .opp (P.min2 .t0 .k) rfl ?_
  obtain ⟨hb3, h⟩ := grd_eq h
  refine .opg (G.mks (by_ := 1) (cs := [B8 0]) .g0 .t0 runUnderlying40 sizeOf5 typeInfo5 rfl zeroValue5 rfl rfl rfl rfl hb3.1 hb3.2 rfl) rfl fun u2 _ => ?_
  refine .conseq .k0 (q := lst 5 1 u2 ((List.replicate (if 8 < (if 0 > a1 then 0 else a1) then 8 else if 0 > a1 then 0 else a1).toNat (0 : UInt8)).map (fun x => [B8 x]))) (fun _ hh => by simpa [List.map_replicate] using hh) ?_
  refine .opx (X.alc (cs := [nilSl]) zeroValue40 rfl) rfl fun b4 => ?_
  refine .onel .k1 fun ho5 => ?_
  refine .opg (G.str .t1 .g0 .k0 (.mk1 (cs' := [u2]) sizeOf40 rfl ho5 rfl rfl)) rfl fun _ _ => ?_
  refine .nil ?_
  refine .then ?_
  refine .seq ?_
  refine .seq ?_
  refine .reg rfl ?_
  refine .op (V.ld (v := u2) .g0 .k0 (.one isAgg40 rfl)) rfl ?_
  refine .cell .k1 fun hv6 => ?_
  refine .opg (G.call call82 (.cons .t0 .nil) (S_slices_Backward_byte u2 hv6 _ rfl) .nil .nil (fun _ _ => rfl) (fun _ _ => rfl) rfl) rfl fun b7 _ => ?_
  refine .nil ?_
  refine .then ?_
  refine .block ?_
  refine .rangeF rfl .t0 call87 func87 rfl ntmps87 rfl fun a8 O9 D10 l11 ha12 hO13 => ?_
  refine .seq ?_
  refine .reg rfl ?_
  refine .op (V.ld (v := u2) .g1 .k2 (.one isAgg40 rfl)) rfl ?_
  refine .op (V.lnl (n := (List.replicate (if 8 < (if 0 > a1 then 0 else a1) then 8 else if 0 > a1 then 0 else a1).toNat (0 : UInt8)).length) .t0 .k4 map_len runUnderlying40) rfl ?_
  refine .opp (P.bin .t0 .k .sub) rfl ?_
  refine .opp (P.asg .t0) rfl ?_
  refine .nil ?_
  refine .then ?_
  refine .block ?_
  obtain ⟨o16, ho17, h⟩ := bnd_eq h
  refine .loopW (γ := Unit) (fun (s14 : Int × (List UInt8) × (List UInt8) × Int) z15 => [(3, N s14.1), (0, yv l11), (1, pt b7 0)]) (fun (s14 : Int × (List UInt8) × (List UInt8) × Int) z15 => [blk b7 40 [u2], blk b4 40 [u2], blk b1 3 [N s14.2.2.2], lst 5 1 u2 (s14.2.1.map (fun x => [B8 x])), obj l11 (O9 .ready none), obj D10 (.deferred (some []))]) (fun (s14 : Int × (List UInt8) × (List UInt8) × Int) z15 => []) () ho17 (.cons Mm.m0 (.cons Mm.m1 (.cons Mm.m2 .nil))) (.of (.cons .k2 (.cons .k2 (.cons .k3 (.cons .k2 (.cons .k0 (.cons .k0 .nil))))))) .nil (fun n22 s14 z15 hr20 => ?_)
  obtain ⟨ct21, hc18, hn19⟩ := loopK_at hr20
  refine .seq ?_
  refine .seq ?_
  refine .reg rfl ?_
  refine .opp (P.mov .g0) rfl ?_
  refine .opp (P.bin .t0 .k .geq) rfl ?_
  refine .nil ?_
  refine .then ?_
  refine .cond .t0 (fun c23 => ?_) (fun c23 => ?_)
  · rw [if_pos c23] at hc18
    refine .skip ?_
    refine .then ?_
    refine .seq ?_
    refine .block ?_
    refine .seq ?_
    refine .regY 6 rfl ?_
    refine .opp (P.mov .g1) rfl ?_
    refine .opp (P.mov .g1) rfl ?_
    refine .op (V.ld (v := u2) .g4 .k0 (.one isAgg40 rfl)) rfl ?_
    refine .opp (P.mov .g3) rfl ?_
    obtain ⟨x27, hx28, hc18⟩ := bnd_eq hc18
    obtain ⟨i29, hi30, hx28⟩ := at_eq hx28
    have hi30_ : (s14.1).toNat = i29 := by rw [hi30]; rfl
    refine .ixql .k3 (map_get hx28) fun p24 q25 hq26 => ?_
    refine .opp (P.ixi (i := i29) .t0 hi30 .t0 hq26 runUnderlying40 sizeOf5) rfl ?_
    refine .op (V.ldxl0 (u := B8 x27) .t0 hq26 .k3 (map_get hx28) (.one isAgg5 rfl)) rfl ?_
    refine .nil ?_
    refine .then ?_
    refine .yield (ps := [13, 14]) .t2 (.cons .t1 (.cons .t0 .nil)) hO13 .k4 rfl rfl (by decide) fun a31 ha32 => ?_
    refine .reg rfl ?_
    refine .opp (P.asg .t0) rfl ?_
    refine .nil ?_
    refine .then ?_
    refine .bg rfl hO13 .k0 ?_
    refine .block ?_
    refine .seq ?_
    refine .reg rfl ?_
    refine .op (V.ld (v := u2) .t2 .k2 (.one isAgg40 rfl)) rfl ?_
    refine .opp (P.mov .t1) rfl ?_
    refine .op (V.ld (v := N s14.2.2.2) .g3 .k3 (.one isAgg3 rfl)) rfl ?_
    refine .opp (P.cnvB8 (m := s14.2.2.2) .t0 runUnderlying3 runUnderlying5) rfl ?_
    obtain ⟨x36, hx37, hc18⟩ := bnd_eq hc18
    obtain ⟨i38, hi39, hx37⟩ := at_eq hx37
    have hi39_ : (s14.1).toNat = i38 := by rw [hi39]; rfl
    refine .ixql .k4 (map_get hx37) fun p33 q34 hq35 => ?_
    refine .opp (P.ixi (i := i38) .t1 hi39 .t1 hq35 runUnderlying40 sizeOf5) rfl ?_
    refine .opg (G.stx (off := q34) (k := 0) (cs' := [B8 (B8i s14.2.2.2)]) .t1 .t0 hq35 .k4 (map_get hx37) (.mk sizeOf5 rfl rfl rfl rfl)) rfl fun _ _ => ?_
    refine .conseq .k0 (q := lst 5 1 u2 ((s14.2.1.set (s14.1).toNat (B8i s14.2.2.2 : UInt8)).map (fun x => [B8 x]))) (fun _ h_ => by rw [hi39_]; simpa [List.map_set] using h_) ?_
    refine .nil ?_
    refine .then ?_
    refine .reg rfl ?_
    refine .op (V.ld (v := N s14.2.2.2) .g1 .k4 (.one isAgg3 rfl)) rfl ?_
    refine .opp (P.bin .t0 .k (.shr (by decide))) rfl ?_
    refine .opg (G.str .t0 .t1 .k4 (.mk (cs' := [N (shrK .i64 s14.2.2.2 8)]) sizeOf3 rfl rfl rfl rfl)) rfl fun _ _ => ?_
    refine .nil ?_
    refine .inn ?_
    refine .rnorm rfl ⟨rfl, rfl, rfl⟩ ha32 hO13 .k2 rfl ?_
    refine .inL rfl ?_
    refine .opp (P.not .t0) rfl ?_
    refine .nil ?_
    refine .then ?_
    refine .condF .t0 ?_
    refine .skip ?_
    refine .inn ?_
    refine .then ?_
    refine .reg rfl ?_
    refine .opp (P.mov .g0) rfl ?_
    refine .opp (P.bin .t0 .k .sub) rfl ?_
    refine .drop .k1 ?_
    refine .opp (P.asg .t0) rfl ?_
    refine .nil ?_
    cases hc18
    obtain ⟨m40, hm41, hn19⟩ := hn19
    exact .rdW ((IntKind.i64.wrap (s14.1 - 1), (s14.2.1.set (s14.1).toNat (B8i s14.2.2.2 : UInt8)), (s14.2.1.set (s14.1).toNat (B8i s14.2.2.2 : UInt8)), shrK .i64 s14.2.2.2 8)) () hm41 hn19 (.cons Mm.m0 (.cons Mm.m1 (.cons Mm.m2 .nil))) (.of (.cons .k3 (.cons .k3 (.cons .k1 (.cons .k1 (.cons .k0 (.cons .k0 .nil))))))) .nil
  · rw [if_neg (ne_true_of_eq_false c23)] at hc18
    refine .exit ?_
    refine .thx ?_
    cases hc18
    refine .told (γ := Unit) h hn19 (fun (s14 : Int × (List UInt8) × (List UInt8) × Int) _ => [(3, N s14.1), (0, yv l11), (1, pt b7 0)]) (fun (s14 : Int × (List UInt8) × (List UInt8) × Int) _ => [blk b7 40 [u2], blk b4 40 [u2], blk b1 3 [N s14.2.2.2], lst 5 1 u2 (s14.2.1.map (fun x => [B8 x])), obj l11 (O9 .ready none), obj D10 (.deferred (some []))]) (fun (s14 : Int × (List UInt8) × (List UInt8) × Int) _ => []) () (.cons Mm.m0 (.cons Mm.m1 (.cons Mm.m2 .nil))) (.of (.cons .k0 (.cons .k0 (.cons .k0 (.cons .k0 (.cons .k0 (.cons .k0 .nil))))))) .nil (fun s14 _ h' => ?_)
    replace h := h'
    refine .thx ?_
    refine .inb ?_
    refine .rfinn ha12 hO13 .k4 rfl ?_
    refine .inn ?_
    refine .then ?_
    refine .seq ?_
    refine .reg rfl ?_
    refine .op (V.ld (v := u2) .t0 .k1 (.one isAgg40 rfl)) rfl ?_
    refine .opp (P.asg .t0) rfl ?_
    refine .nil ?_
    refine .then ?_
    refine .ret ?_
    cases h
    exact .finm u2 .k4 (.r1 rfl (.tmp .g0)) trivial (Ls.of (.cons .k3 .nil)) .nil
attribute [irreducible] blob_Num
noncomputable def slices_Grow_byte_nil (a1 : Int) : Option ((List UInt8)) :=
  if (decide (a1 < 0)) = true then none else (Option.bind (if (decide ((IntKind.i64.wrap (a1 - 0)) > 0)) = true then (grd (0 ≤ (IntKind.i64.wrap (a1 - 0)) ∧ (IntKind.i64.wrap (a1 - 0)) * 1 ≤ 70368744177664) <| some ()) else (some ())) fun (y2 : Unit) => some ([] : List UInt8))
set_option maxRecDepth 20000 in
set_option maxHeartbeats 1000000 in
theorem S_slices_Grow_byte_nil (a1 : Int) (r : (List UInt8)) (h : slices_Grow_byte_nil a1 = some r) :
    SpecF Try.prog 84 [nilSl, N a1] [] [] (fun z : Value => True) (fun z => z) (fun z M => lst 5 1 z (r.map (fun x => [B8 x])) ::  M) (fun z M =>  M) := by
  refine .of func84 rfl ntmps84 rfl fun w0 D0 G0 => ?_
  unfold slices_Grow_byte_nil at h
  refine .seq ?_
  refine .reg rfl ?_
  refine .op0 (OpP.toV (P.asg .k)) rfl ?_
  refine .nil ?_
  refine .then ?_
  refine .seq ?_
  refine .seq ?_
  refine .reg rfl ?_
  refine .opp (P.mov .g1) rfl ?_
  refine .opp (P.bin .t0 .k .lss) rfl ?_
  refine .nil ?_
  refine .then ?_
  refine .cond .t0 (fun c1 => ?_) (fun c1 => ?_)
  · rw [if_pos c1] at h
    refine .reg rfl ?_
    cases h
  · rw [if_neg (ne_true_of_eq_false c1)] at h
    refine .skip ?_
    refine .then ?_
    obtain ⟨y2, hj4, h⟩ := bnd_eq h
    refine .cutx (γ := Value) (E1 := fun z3 => [(0, z3)]) (L1 := fun z3 => [lst 5 1 z3 []]) (R1 := fun z3 => []) ?_ (fun z3 => ?_)
    · clear h
      refine .seq ?_
      refine .reg rfl ?_
      refine .opp (P.mov .g1) rfl ?_
      refine .opp (P.mov .g1) rfl ?_
      refine .opp (P.capn .t0 runUnderlying40) rfl ?_
      refine .opp (P.mov .g2) rfl ?_
      refine .opp (P.lenn .t0 runUnderlying40) rfl ?_
      refine .opp (P.bin (v := N 0) .t1 .t0 (.subc (by decide))) rfl ?_
      refine .opp (P.bin .t1 .t0 .sub) rfl ?_
      refine .drop .k2 ?_
      refine .opp (P.asg .t0) rfl ?_
      refine .nil ?_
      refine .then ?_
      refine .seq ?_
      refine .reg rfl ?_
      refine .opp (P.mov .g0) rfl ?_
      refine .opp (P.bin .t0 .k .gtr) rfl ?_
      refine .nil ?_
      refine .then ?_
      refine .cond .t0 (fun c5 => ?_) (fun c5 => ?_)
      · rw [if_pos c5] at hj4
        refine .reg rfl ?_
        refine .opp (P.mov .g1) rfl ?_
        refine .opp (P.mov .g2) rfl ?_
        refine .opp (P.capn .t0 runUnderlying40) rfl ?_
        refine .opp (P.sln .t1 .t0 runUnderlying40 sizeOf5) rfl ?_
        refine .opp (P.mov .t1) rfl ?_
        obtain ⟨hb7, hj4⟩ := grd_eq hj4
        refine .opg (G.appn (by_ := 1) (cs := [B8 0]) (m := IntKind.i64.wrap (a1 - 0)) .t1 .t0 runUnderlying40 runUnderlying3 sizeOf5 typeInfo5 rfl rfl zeroValue5 rfl rfl rfl hb7.1 hb7.2 rfl) rfl fun u6 _ => ?_
        refine .conseq .k0 (q := lst 5 1 u6 ((List.replicate (IntKind.i64.wrap (a1 - 0)).toNat (0 : UInt8)).map (fun x => [B8 x]))) (fun _ hh => by simpa [List.map_replicate] using hh) ?_
        refine .opp (P.mov .g1) rfl ?_
        refine .opp (P.lenn .t0 runUnderlying40) rfl ?_
        refine .opg (G.sll (m := 0) .t1 .t0 .k0 runUnderlying40 sizeOf5 (by decide) (Int.natCast_nonneg _) rfl) rfl fun u8 _ => ?_
        refine .conseq .k0 (q := lst 5 1 u8 []) (fun _ hh => by simpa using hh) ?_
        refine .drop .k1 ?_
        refine .opp (P.asg .t0) rfl ?_
        refine .nil ?_
        cases hj4
        exact .stj u8 (.cons Mm.m0 .nil) (.of (.cons .k0 .nil)) .nil
      · rw [if_neg (ne_true_of_eq_false c5)] at hj4
        refine .skip ?_
        cases hj4
        refine .lnil 5 1 ?_
        exact .stj nilSl (.cons Mm.m1 .nil) (.of (.cons .k0 .nil)) .nil
    · clear hj4
      refine .seq ?_
      refine .reg rfl ?_
      refine .opp (P.mov .t0) rfl ?_
      refine .opp (P.asg .t0) rfl ?_
      refine .nil ?_
      refine .then ?_
      refine .ret ?_
      cases h
      exact .finw z3 (.r1 rfl (.tmp .g0)) trivial (Ls.of (.cons .k0 .nil)) .nil
attribute [irreducible] slices_Grow_byte_nil
noncomputable def slices_Concat_byte_n2 (a0a : List UInt8) (a0b : List UInt8) : Option ((List UInt8)) :=
  if (decide ((IntKind.i64.wrap (0 + (a0a.length : Int))) < 0)) = true then none else (if (decide ((IntKind.i64.wrap ((IntKind.i64.wrap (0 + (a0a.length : Int))) + (a0b.length : Int))) < 0)) = true then none else (Option.bind (slices_Grow_byte_nil (IntKind.i64.wrap ((IntKind.i64.wrap (0 + (a0a.length : Int))) + (a0b.length : Int)))) fun r9 => grd ((r9.length + a0a.length) * 1 ≤ 140737488355328) <| grd (((r9 ++ a0a).length + a0b.length) * 1 ≤ 140737488355328) <| some (((r9 ++ a0a) ++ a0b))))
set_option maxRecDepth 20000 in
set_option maxHeartbeats 1000000 in
theorem S_slices_Concat_byte_n2 (v00 : Value) (z00a : Value) (a0a : List UInt8) (z00b : Value) (a0b : List UInt8) (r : (List UInt8)) (h : slices_Concat_byte_n2 a0a a0b = some r) :
    SpecF Try.prog 70 [v00] [] [rows 1 v00 [[z00a], [z00b]], rows 1 z00a (a0a.map (fun x => [B8 x])), rows 1 z00b (a0b.map (fun x => [B8 x]))] (fun z : Value => True) (fun z => z) (fun z M => lst 5 1 z (r.map (fun x => [B8 x])) ::  M) (fun z M =>  M) := by
  refine .of func70 rfl ntmps70 rfl fun w0 D0 G0 => ?_
  unfold slices_Concat_byte_n2 at h
  refine .seq ?_
  refine .reg rfl ?_
  refine .op0 (OpP.toV (P.asg .k)) rfl ?_
  refine .nil ?_
  refine .then ?_
  refine .seq ?_
  refine .reg rfl ?_
  refine .opp (P.asg .k) rfl ?_
  refine .nil ?_
  refine .then ?_
  refine .seq ?_
  refine .seq ?_
  refine .reg rfl ?_
  refine .opp (P.mov .g1) rfl ?_
  refine .op (V.lnr (n := 2) .g0 Mm.m0 rfl runUnderlying94) rfl ?_
  refine .opp (P.mov .k) rfl ?_
  refine .nil ?_
  refine .then ?_
  refine .block ?_
  refine .rounds 3 ?_
  refine .rd ?_
  refine .seq ?_
  refine .reg rfl ?_
  refine .opp (P.bin (v := Bo true) .g0 .g1 (BinV.lss.boolc (by decide))) rfl ?_
  refine .nil ?_
  refine .then ?_
  refine .seq ?_
  refine .condT .t0 ?_
  refine .skip ?_
  refine .then ?_
  refine .seq ?_
  refine .block ?_
  refine .seq ?_
  refine .reg rfl ?_
  refine .ixq Mm.m0 (show [[z00a], [z00b]][0]? = some [z00a] from rfl) fun p1 q2 hq3 => ?_
  refine .opp (P.ixi (i := 0) .g0 rfl .g2 hq3 runUnderlying94 sizeOf40) rfl ?_
  refine .op (V.ldx0 (u := z00a) .t0 hq3 Mm.m0 (show [[z00a], [z00b]][0]? = some [z00a] from rfl) (.one isAgg40 rfl)) rfl ?_
  refine .opp (P.asg .t0) rfl ?_
  refine .nil ?_
  refine .then ?_
  refine .seq ?_
  refine .reg rfl ?_
  refine .opp (P.mov .g4) rfl ?_
  refine .opp (P.mov .t1) rfl ?_
  refine .op (V.lnr (n := a0a.length) .t0 Mm.m1 map_len runUnderlying40) rfl ?_
  refine .opp (P.bin .t1 .t0 .add) rfl ?_
  refine .drop .k4 ?_
  refine .opp (P.asg .t0) rfl ?_
  refine .nil ?_
  refine .then ?_
  refine .seq ?_
  refine .reg rfl ?_
  refine .opp (P.mov .g0) rfl ?_
  refine .opp (P.bin .t0 .k .lss) rfl ?_
  refine .nil ?_
  refine .then ?_
  refine .cond .t0 (fun c4 => ?_) (fun c4 => ?_)
  · rw [if_pos c4] at h
    refine .reg rfl ?_
    cases h
  · rw [if_neg (ne_true_of_eq_false c4)] at h
    refine .skip ?_
    refine .inn ?_
    refine .then ?_
    refine .reg rfl ?_
    refine .opp (P.bin (v := N 1) .g1 .k (.addc (by decide))) rfl ?_
    refine .drop .k2 ?_
    refine .opp (P.mov .t0) rfl ?_
    refine .nil ?_
    refine .then ?_
    refine .rd ?_
    refine .seq ?_
    refine .reg rfl ?_
    refine .opp (P.bin (v := Bo true) .g0 .g2 (BinV.lss.boolc (by decide))) rfl ?_
    refine .nil ?_
    refine .then ?_
    refine .seq ?_
    refine .condT .t0 ?_
    refine .skip ?_
    refine .then ?_
    refine .seq ?_
    refine .block ?_
    refine .seq ?_
    refine .reg rfl ?_
    refine .ixq Mm.m0 (show [[z00a], [z00b]][1]? = some [z00b] from rfl) fun p5 q6 hq7 => ?_
    refine .opp (P.ixi (i := 1) .g0 rfl .g3 hq7 runUnderlying94 sizeOf40) rfl ?_
    refine .op (V.ldx0 (u := z00b) .t0 hq7 Mm.m0 (show [[z00a], [z00b]][1]? = some [z00b] from rfl) (.one isAgg40 rfl)) rfl ?_
    refine .opp (P.asg .t0) rfl ?_
    refine .nil ?_
    refine .then ?_
    refine .seq ?_
    refine .reg rfl ?_
    refine .opp (P.mov .g2) rfl ?_
    refine .opp (P.mov .t1) rfl ?_
    refine .op (V.lnr (n := a0b.length) .t0 Mm.m2 map_len runUnderlying40) rfl ?_
    refine .opp (P.bin .t1 .t0 .add) rfl ?_
    refine .drop .k2 ?_
    refine .opp (P.asg .t0) rfl ?_
    refine .nil ?_
    refine .then ?_
    refine .seq ?_
    refine .reg rfl ?_
    refine .opp (P.mov .g0) rfl ?_
    refine .opp (P.bin .t0 .k .lss) rfl ?_
    refine .nil ?_
    refine .then ?_
    refine .cond .t0 (fun c8 => ?_) (fun c8 => ?_)
    · rw [if_pos c8] at h
      refine .reg rfl ?_
      cases h
    · rw [if_neg (ne_true_of_eq_false c8)] at h
      refine .skip ?_
      refine .inn ?_
      refine .then ?_
      refine .reg rfl ?_
      refine .opp (P.bin (v := N 2) .g1 .k (.addc (by decide))) rfl ?_
      refine .drop .k2 ?_
      refine .opp (P.mov .t0) rfl ?_
      refine .nil ?_
      refine .then ?_
      refine .rd ?_
      refine .seq ?_
      refine .reg rfl ?_
      refine .opp (P.bin (v := Bo false) .g0 .g2 (BinV.lss.boolc (by decide))) rfl ?_
      refine .nil ?_
      refine .then ?_
      refine .seq ?_
      refine .condF .t0 ?_
      refine .exit ?_
      refine .thx ?_
      refine .thx ?_
      refine .inb ?_
      refine .then ?_
      refine .seq ?_
      refine .reg rfl ?_
      refine .opp (P.mov .t1) rfl ?_
      obtain ⟨r9, hr10, h⟩ := bnd_eq h
      refine .opg (G.call call84 (.cons .k (.cons .t0 .nil)) (S_slices_Grow_byte_nil (IntKind.i64.wrap ((IntKind.i64.wrap (0 + (a0a.length : Int))) + (a0b.length : Int))) r9 hr10) .nil .nil (fun _ _ => rfl) (fun _ _ => rfl) rfl) rfl fun u11 _ => ?_
      refine .opp (P.asg .t0) rfl ?_
      refine .nil ?_
      refine .then ?_
      refine .seq ?_
      refine .seq ?_
      refine .reg rfl ?_
      refine .opp (P.mov .t4) rfl ?_
      refine .op (V.lnr (n := 2) .g0 Mm.m0 rfl runUnderlying94) rfl ?_
      refine .opp (P.mov .k) rfl ?_
      refine .nil ?_
      refine .then ?_
      refine .block ?_
      refine .rounds 3 ?_
      refine .rd ?_
      refine .seq ?_
      refine .reg rfl ?_
      refine .opp (P.bin (v := Bo true) .g0 .g1 (BinV.lss.boolc (by decide))) rfl ?_
      refine .nil ?_
      refine .then ?_
      refine .seq ?_
      refine .condT .t0 ?_
      refine .skip ?_
      refine .then ?_
      refine .seq ?_
      refine .block ?_
      refine .seq ?_
      refine .reg rfl ?_
      refine .ixq Mm.m0 (show [[z00a], [z00b]][0]? = some [z00a] from rfl) fun p12 q13 hq14 => ?_
      refine .opp (P.ixi (i := 0) .g0 rfl .g2 hq14 runUnderlying94 sizeOf40) rfl ?_
      refine .op (V.ldx0 (u := z00a) .t0 hq14 Mm.m0 (show [[z00a], [z00b]][0]? = some [z00a] from rfl) (.one isAgg40 rfl)) rfl ?_
      refine .opp (P.asg .t0) rfl ?_
      refine .nil ?_
      refine .then ?_
      refine .reg rfl ?_
      refine .opp (P.mov .g4) rfl ?_
      refine .opp (P.mov .t1) rfl ?_
      obtain ⟨hb16, h⟩ := grd_eq h
      refine .opg (G.app (by_ := 1) .t1 .t0 .k0 (.inl Mm.m1) runUnderlying40 runUnderlying40 sizeOf5 typeInfo5 rfl rfl zeroValue5 rfl (one_map one_5 _) (by simpa using hb16) rfl) rfl fun u15 _ => ?_
      refine .conseq .k0 (q := lst 5 1 u15 ((r9 ++ a0a).map (fun x => [B8 x]))) (fun _ hh => by simpa [List.map_append] using hh) ?_
      refine .drop .k4 ?_
      refine .opp (P.asg .t0) rfl ?_
      refine .nil ?_
      refine .inn ?_
      refine .then ?_
      refine .reg rfl ?_
      refine .opp (P.bin (v := N 1) .g1 .k (.addc (by decide))) rfl ?_
      refine .drop .k2 ?_
      refine .opp (P.mov .t0) rfl ?_
      refine .nil ?_
      refine .then ?_
      refine .rd ?_
      refine .seq ?_
      refine .reg rfl ?_
      refine .opp (P.bin (v := Bo true) .g0 .g2 (BinV.lss.boolc (by decide))) rfl ?_
      refine .nil ?_
      refine .then ?_
      refine .seq ?_
      refine .condT .t0 ?_
      refine .skip ?_
      refine .then ?_
      refine .seq ?_
      refine .block ?_
      refine .seq ?_
      refine .reg rfl ?_
      refine .ixq Mm.m0 (show [[z00a], [z00b]][1]? = some [z00b] from rfl) fun p17 q18 hq19 => ?_
      refine .opp (P.ixi (i := 1) .g0 rfl .g3 hq19 runUnderlying94 sizeOf40) rfl ?_
      refine .op (V.ldx0 (u := z00b) .t0 hq19 Mm.m0 (show [[z00a], [z00b]][1]? = some [z00b] from rfl) (.one isAgg40 rfl)) rfl ?_
      refine .opp (P.asg .t0) rfl ?_
      refine .nil ?_
      refine .then ?_
      refine .reg rfl ?_
      refine .opp (P.mov .g2) rfl ?_
      refine .opp (P.mov .t1) rfl ?_
      obtain ⟨hb21, h⟩ := grd_eq h
      refine .opg (G.app (by_ := 1) .t1 .t0 .k0 (.inl Mm.m2) runUnderlying40 runUnderlying40 sizeOf5 typeInfo5 rfl rfl zeroValue5 rfl (one_map one_5 _) (by simpa using hb21) rfl) rfl fun u20 _ => ?_
      refine .conseq .k0 (q := lst 5 1 u20 (((r9 ++ a0a) ++ a0b).map (fun x => [B8 x]))) (fun _ hh => by simpa [List.map_append] using hh) ?_
      refine .drop .k2 ?_
      refine .opp (P.asg .t0) rfl ?_
      refine .nil ?_
      refine .inn ?_
      refine .then ?_
      refine .reg rfl ?_
      refine .opp (P.bin (v := N 2) .g1 .k (.addc (by decide))) rfl ?_
      refine .drop .k2 ?_
      refine .opp (P.mov .t0) rfl ?_
      refine .nil ?_
      refine .then ?_
      refine .rd ?_
      refine .seq ?_
      refine .reg rfl ?_
      refine .opp (P.bin (v := Bo false) .g0 .g2 (BinV.lss.boolc (by decide))) rfl ?_
      refine .nil ?_
      refine .then ?_
      refine .seq ?_
      refine .condF .t0 ?_
      refine .exit ?_
      refine .thx ?_
      refine .thx ?_
      refine .inb ?_
      refine .then ?_
      refine .seq ?_
      refine .reg rfl ?_
      refine .opp (P.mov .t1) rfl ?_
      refine .opp (P.asg .t0) rfl ?_
      refine .nil ?_
      refine .then ?_
      refine .ret ?_
      cases h
      exact .finw u20 (.r1 rfl (.tmp .g0)) trivial (Ls.of (.cons .k0 .nil)) .nil
attribute [irreducible] slices_Concat_byte_n2
noncomputable def blob_Cat_n2 (a0a : List UInt8) (a0b : List UInt8) : Option ((List UInt8)) :=
  Option.bind (slices_Concat_byte_n2 a0a a0b) fun r1 => some r1
set_option maxRecDepth 20000 in
set_option maxHeartbeats 1000000 in
theorem S_blob_Cat_n2 (v00 : Value) (z00a : Value) (a0a : List UInt8) (z00b : Value) (a0b : List UInt8) (r : (List UInt8)) (h : blob_Cat_n2 a0a a0b = some r) :
    SpecF Try.prog 58 [v00] [] [rows 1 v00 [[z00a], [z00b]], rows 1 z00a (a0a.map (fun x => [B8 x])), rows 1 z00b (a0b.map (fun x => [B8 x]))] (fun z : Value => True) (fun z => z) (fun z M => lst 5 1 z (r.map (fun x => [B8 x])) ::  M) (fun z M =>  M) := by
  refine .of func58 rfl ntmps58 rfl fun w0 D0 G0 => ?_
  unfold blob_Cat_n2 at h
  refine .seq ?_
  refine .reg rfl ?_
  refine .op0 (OpP.toV (P.asg .k)) rfl ?_
  refine .nil ?_
  refine .then ?_
  refine .seq ?_
  refine .reg rfl ?_
  refine .opp (P.mov .t0) rfl ?_
  obtain ⟨r1, hr2, h⟩ := bnd_eq h
  refine .opg (G.call call70 (.cons .t0 .nil) (S_slices_Concat_byte_n2 v00 z00a a0a z00b a0b r1 hr2) .nil (.cons Mm.m0 (.cons Mm.m1 (.cons Mm.m2 .nil))) (fun _ _ => rfl) (fun _ _ => rfl) rfl) rfl fun u3 _ => ?_
  refine .opp (P.asg .t0) rfl ?_
  refine .nil ?_
  refine .then ?_
  refine .ret ?_
  cases h
  exact .finw u3 (.r1 rfl (.tmp .g0)) trivial (Ls.of (.cons .k0 .nil)) .nil
attribute [irreducible] blob_Cat_n2
noncomputable def field_Out_put (a0 : field_Out) (a1 : List UInt8) (a2 : Int) : Option (field_Out) :=
  thn (if (!a0.made) = true then true else (decide (a0.e_ ≠ 0))) fun (y1 : Bool) => if y1 = true then (some a0) else (if (decide (a2 ≠ 0)) = true then (some (⟨a0.b, a2, a0.made⟩ : field_Out)) else (if (decide ((IntKind.i64.wrap ((a0.b.length : Int) + (a1.length : Int))) > 8192)) = true then (some (⟨a0.b, 5, a0.made⟩ : field_Out)) else (grd ((a0.b.length + a1.length) * 1 ≤ 140737488355328) <| some ((⟨(a0.b ++ a1), a0.e_, a0.made⟩ : field_Out)))))
set_option maxRecDepth 20000 in
set_option maxHeartbeats 1000000 in
theorem S_field_Out_put (b00 : Nat) (a0 : field_Out) (z00a : Value) (v01 : Value) (a1 : List UInt8) (a2 : Int) (r : field_Out) (h : field_Out_put a0 a1 a2 = some r) :
    SpecF Try.prog 67 [pt b00 0, v01, N a2] [blk b00 105 (field_Out.cs a0 z00a), lst 5 1 z00a (a0.b.map (fun x => [B8 x]))] [rows 1 v01 (a1.map (fun x => [B8 x]))] (fun z : Value => True) (fun z => Tu []) (fun z M => blk b00 105 (field_Out.cs r z) :: lst 5 1 z (r.b.map (fun x => [B8 x])) ::  M) (fun z M =>  M) := by
  refine .of func67 rfl ntmps67 rfl fun w0 D0 G0 => ?_
  unfold field_Out_put at h
  refine .block ?_
  obtain ⟨y1, hj3, h⟩ := thn_eq h
  refine .cutx (γ := Unit) (E1 := fun z2 => [(15, Bo y1), (0, pt b00 0), (1, v01), (2, N a2)]) (L1 := fun z2 => [blk b00 105 (field_Out.cs a0 z00a), lst 5 1 z00a (a0.b.map (fun x => [B8 x]))]) (R1 := fun z2 => [rows 1 v01 (a1.map (fun x => [B8 x]))]) ?_ (fun z2 => ?_)
  · clear h
    refine .reg rfl ?_
    refine .opp (P.mov .g0) rfl ?_
    refine .opp (P.bin .t0 .k (.ptr_eql (e := 105) (by kernel_rfl))) rfl ?_
    refine .opp (P.mov .t0) rfl ?_
    refine .gyes rfl .g0 ?_
    refine .opp (P.mov .g1) rfl ?_
    refine .gyes rfl .g1 ?_
    refine .opp (P.nilc .t0) rfl ?_
    refine .gyes rfl .g1 ?_
    refine .opp (P.fa .t0 fa_105_2 rfl) rfl ?_
    refine .gyes rfl .g1 ?_
    refine .op (V.ld (v := Bo a0.made) .t0 .k0 (.one isAgg4 rfl)) rfl ?_
    refine .gyes rfl .g1 ?_
    refine .opp (P.not .t0) rfl ?_
    refine .opp (P.pickF .t1 .t0) rfl ?_
    refine .opp (P.mov .t0) rfl ?_
    refine .split .k0 (fun c4 => ?_) (fun c4 => ?_)
    · rw [if_pos c4] at hj3
      refine .gno rfl .g0 rfl rfl ?_
      refine .gno rfl .g0 rfl rfl ?_
      refine .gno rfl .g0 rfl rfl ?_
      refine .gno rfl .g0 rfl rfl ?_
      refine .gno rfl .g0 rfl rfl ?_
      refine .opp (P.pickT .t0 .k) rfl ?_
      refine .opp (P.asg .t0) rfl ?_
      refine .nil ?_
      subst hj3
      exact .stj () (.cons Mm.m0 (.cons Mm.m1 (.cons Mm.m2 (.cons Mm.m3 .nil)))) (.of (.cons .k0 (.cons .k0 .nil))) (.cons Mm.m0 .nil)
    · rw [if_neg (ne_true_of_eq_false c4)] at hj3
      refine .gyes rfl .g0 ?_
      refine .opp (P.mov .g1) rfl ?_
      refine .gyes rfl .g1 ?_
      refine .opp (P.nilc .t0) rfl ?_
      refine .gyes rfl .g1 ?_
      refine .opp (P.fa .t0 fa_105_1 rfl) rfl ?_
      refine .gyes rfl .g1 ?_
      refine .op (V.ld (v := N a0.e_) .t0 .k0 (.one isAgg25 rfl)) rfl ?_
      refine .gyes rfl .g1 ?_
      refine .opp (P.bin .t0 .k .neq) rfl ?_
      refine .opp (P.pickF .t1 .t0) rfl ?_
      refine .opp (P.asg .t0) rfl ?_
      refine .nil ?_
      subst hj3
      exact .stj () (.cons Mm.m0 (.cons Mm.m1 (.cons Mm.m2 (.cons Mm.m3 .nil)))) (.of (.cons .k0 (.cons .k0 .nil))) (.cons Mm.m0 .nil)
  · clear hj3
    refine .cond .t0 (fun c5 => ?_) (fun c5 => ?_)
    · rw [if_pos c5] at h
      refine .skip ?_
      refine .inn ?_
      cases h
      exact .finwn z00a (.r0 rfl) trivial (Ls.of (.cons .k0 (.cons .k0 .nil))) .nil
    · rw [if_neg (ne_true_of_eq_false c5)] at h
      refine .seq ?_
      refine .reg rfl ?_
      refine .opp (P.mov .g2) rfl ?_
      refine .opp (P.bin .t0 .k .neq) rfl ?_
      refine .opp (P.asg .t0) rfl ?_
      refine .nil ?_
      refine .then ?_
      refine .cond .t0 (fun c6 => ?_) (fun c6 => ?_)
      · rw [if_pos c6] at h
        refine .reg rfl ?_
        refine .opp (P.mov .t0) rfl ?_
        refine .opp (P.mov .t2) rfl ?_
        refine .opp (P.nilc .t1) rfl ?_
        refine .opp (P.fa .t0 fa_105_1 rfl) rfl ?_
        refine .opg (G.str .t1 .t0 .k0 (.mk (cs' := (field_Out.cs ⟨a0.b, a2, a0.made⟩ z00a)) sizeOf25 rfl rfl rfl rfl)) rfl fun _ _ => ?_
        refine .nil ?_
        refine .inn ?_
        cases h
        exact .finwn z00a (.r0 rfl) trivial (Ls.of (.cons .k0 (.cons .k0 .nil))) .nil
      · rw [if_neg (ne_true_of_eq_false c6)] at h
        refine .seq ?_
        refine .reg rfl ?_
        refine .opp (P.mov .g0) rfl ?_
        refine .opp (P.nilc .t0) rfl ?_
        refine .opp (P.fa .t0 fa_105_0 rfl) rfl ?_
        refine .op (V.ld (v := z00a) .t0 .k0 (.one isAgg40 rfl)) rfl ?_
        refine .op (V.lnl (n := a0.b.length) .t0 .k1 map_len runUnderlying40) rfl ?_
        refine .opp (P.mov .g2) rfl ?_
        refine .op (V.lnr (n := a1.length) .t0 Mm.m0 map_len runUnderlying40) rfl ?_
        refine .opp (P.bin .t1 .t0 .add) rfl ?_
        refine .opp (P.bin .t0 .k .gtr) rfl ?_
        refine .opp (P.asg .t0) rfl ?_
        refine .nil ?_
        refine .then ?_
        refine .cond .t0 (fun c7 => ?_) (fun c7 => ?_)
        · rw [if_pos c7] at h
          refine .reg rfl ?_
          refine .opp (P.mov .t0) rfl ?_
          refine .opp (P.nilc .t0) rfl ?_
          refine .opp (P.fa .t0 fa_105_1 rfl) rfl ?_
          refine .opg (G.str .k .t0 .k0 (.mk (cs' := (field_Out.cs ⟨a0.b, 5, a0.made⟩ z00a)) sizeOf25 rfl rfl rfl rfl)) rfl fun _ _ => ?_
          refine .nil ?_
          refine .inn ?_
          cases h
          exact .finwn z00a (.r0 rfl) trivial (Ls.of (.cons .k0 (.cons .k0 .nil))) .nil
        · rw [if_neg (ne_true_of_eq_false c7)] at h
          refine .reg rfl ?_
          refine .opp (P.mov .g0) rfl ?_
          refine .opp (P.mov .t1) rfl ?_
          refine .opp (P.nilc .t0) rfl ?_
          refine .opp (P.fa .t0 fa_105_0 rfl) rfl ?_
          refine .op (V.ld (v := z00a) .t0 .k0 (.one isAgg40 rfl)) rfl ?_
          refine .opp (P.mov .t2) rfl ?_
          obtain ⟨hb9, h⟩ := grd_eq h
          refine .opg (G.app (by_ := 1) .t1 .t0 .k1 (.inl Mm.m0) runUnderlying40 runUnderlying40 sizeOf5 typeInfo5 rfl rfl zeroValue5 rfl (one_map one_5 _) (by simpa using hb9) rfl) rfl fun u8 _ => ?_
          refine .conseq .k0 (q := lst 5 1 u8 ((a0.b ++ a1).map (fun x => [B8 x]))) (fun _ hh => by simpa [List.map_append] using hh) ?_
          refine .opp (P.nilc .t1) rfl ?_
          refine .opp (P.fa .t0 fa_105_0 rfl) rfl ?_
          refine .onel .k0 fun ho10 => ?_
          refine .opg (G.str .t1 .t0 .k1 (.mk1 (cs' := (field_Out.cs ⟨[], a0.e_, a0.made⟩ u8)) sizeOf40 rfl ho10 rfl rfl)) rfl fun _ _ => ?_
          refine .nil ?_
          refine .inn ?_
          cases h
          exact .finwn u8 (.r0 rfl) trivial (Ls.of (.cons .k0 (.cons .k0 .nil))) .nil
attribute [irreducible] field_Out_put
end Go.Sl
