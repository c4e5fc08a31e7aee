/- Walked code of the program, its pure functions and their contracts. -/
import Derived.Test.YtknpgjcnhneaaaaSlAud
set_option linter.unusedVariables false
set_option linter.unusedSimpArgs false
namespace Go.Sl
open Go.Proofs Go.Proofs.Try
theorem fa_43_3 : FaV Try.prog 43 3 3 := .mk runUnderlying43 rfl sizeOf28 rfl rfl
noncomputable def hash_Text_n1 (a0a : List UInt8) : Option (ByteArray) :=
  Option.bind (blob_Cat_n1 a0a) fun r1 => Option.bind (hash_Sum r1) fun r4 => some (⟨⟨r4⟩⟩ : ByteArray)
set_option maxRecDepth 20000 in
set_option maxHeartbeats 1000000 in
theorem S_hash_Text_n1 (v00 : Value) (z00a : Value) (a0a : List UInt8) (r : ByteArray) (h : hash_Text_n1 a0a = some r) :
    SpecF Try.prog 47 [v00] [] [rows 1 v00 [[z00a]], rows 1 z00a (a0a.map (fun x => [B8 x]))] (fun z : Unit => True) (fun z => .string r) (fun z M =>  M) (fun z M =>  M) := by
  refine .of func47 rfl ntmps47 rfl fun w0 D0 G0 => ?_
  unfold hash_Text_n1 at h
  refine .seq ?_
  refine .reg rfl ?_
  refine .op0 (OpP.toV (P.asg .k)) rfl ?_
  refine .nil ?_
  refine .then ?_
  refine .seq ?_
  refine .reg rfl ?_
  refine .opp (P.mov .t0) rfl ?_
  obtain ⟨r1, hr2, h⟩ := bnd_eq h
  refine .opg (G.call call58 (.cons .t0 .nil) (S_blob_Cat_n1 v00 z00a a0a r1 hr2) .nil (.cons Mm.m0 (.cons Mm.m1 .nil)) (fun _ _ => rfl) (fun _ _ => rfl) rfl) rfl fun u3 _ => ?_
  refine .frz .k0 ?_
  obtain ⟨r4, hr5, h⟩ := bnd_eq h
  refine .opg (G.call call59 (.cons .t0 .nil) (S_hash_Sum u3 r1 r4 hr5) .nil (.cons Mm.m0 .nil) (fun _ _ => rfl) (fun _ _ => rfl) rfl) rfl fun u6 _ => ?_
  refine .op (V.b2sl (l := r4) (e := 5) .t0 .k0 (by kernel_rfl) (by kernel_rfl) (by kernel_rfl)) rfl ?_
  refine .opp (P.asg .t0) rfl ?_
  refine .nil ?_
  refine .then ?_
  refine .ret ?_
  cases h
  exact .finw () (.r1 rfl (.tmp .g0)) trivial (Ls.of .nil) .nil
attribute [irreducible] hash_Text_n1
noncomputable def deal_Key (a0 : api_Inv) : Option (ByteArray) :=
  if (decide ((deal_Check a0) ≠ 0)) = true then (some ⟨#[]⟩) else (Option.bind (deal_Put field_New a0) fun r5 => Option.bind (field_Out_Done r5) fun r8 => Option.bind (hash_Text_n1 r8.1) fun r13 => some r13)
set_option maxRecDepth 20000 in
set_option maxHeartbeats 1000000 in
theorem S_deal_Key (a0 : api_Inv) (r : ByteArray) (h : deal_Key a0 = some r) :
    SpecF Try.prog 34 [Ag (api_Inv.cs a0)] [] [] (fun z : Unit => True) (fun z => .string r) (fun z M =>  M) (fun z M =>  M) := by
  refine .of func34 rfl ntmps34 rfl fun w0 D0 G0 => ?_
  unfold deal_Key at h
  refine .seq ?_
  refine .reg rfl ?_
  refine .opx (X.box (cs := (api_Inv.cs a0)) .t0 rfl) rfl fun b1 => ?_
  refine .op0 (OpP.toV (P.asg .k)) rfl ?_
  refine .nil ?_
  refine .then ?_
  refine .seq ?_
  refine .seq ?_
  refine .reg rfl ?_
  refine .op (V.ld (v := Ag (api_Inv.cs a0)) .g0 .k0 (.agg isAgg30 sizeOf30 rfl rfl)) rfl ?_
  refine .opg (G.call call43 (.cons .t0 .nil) (S_deal_Check a0 _ rfl) .nil .nil (fun _ _ => rfl) (fun _ _ => rfl) rfl) rfl fun _ _ => ?_
  refine .opp (P.bin .t0 .k .neq) rfl ?_
  refine .nil ?_
  refine .then ?_
  refine .cond .t0 (fun c2 => ?_) (fun c2 => ?_)
  · rw [if_pos c2] at h
    refine .seq ?_
    refine .reg rfl ?_
    refine .opp (P.asg .k) rfl ?_
    refine .nil ?_
    refine .then ?_
    refine .ret ?_
    refine .thr ?_
    cases h
    exact .finw () (.r1 rfl (.tmp .g0)) trivial (Ls.of .nil) .nil
  · rw [if_neg (ne_true_of_eq_false c2)] at h
    refine .skip ?_
    refine .then ?_
    refine .seq ?_
    refine .reg rfl ?_
    refine .opg (G.call call44 .nil (S_field_New  _ rfl) .nil .nil (fun _ _ => rfl) (fun _ _ => rfl) rfl) rfl fun ⟨b3, u4⟩ _ => ?_
    refine .opp (P.asg .t0) rfl ?_
    refine .nil ?_
    refine .then ?_
    refine .seq ?_
    refine .reg rfl ?_
    refine .opp (P.mov .g0) rfl ?_
    refine .op (V.ld (v := Ag (api_Inv.cs a0)) .t2 .k2 (.agg isAgg30 sizeOf30 rfl rfl)) rfl ?_
    obtain ⟨r5, hr6, h⟩ := bnd_eq h
    refine .opg (G.call call45 (.cons .t1 (.cons .t0 .nil)) (S_deal_Put b3 field_New u4 a0 r5 hr6) (.cons .k0 (.cons .k0 .nil)) .nil (fun _ _ => rfl) (fun _ _ => rfl) rfl) rfl fun u7 _ => ?_
    refine .drop .k0 ?_
    refine .nil ?_
    refine .then ?_
    refine .seq ?_
    refine .reg rfl ?_
    refine .opp (P.mov .t0) rfl ?_
    obtain ⟨r8, hr9, h⟩ := bnd_eq h
    refine .opg (G.call call46 (.cons .t0 .nil) (S_field_Out_Done b3 r5 u7 r8 hr9) (.cons .k0 (.cons .k0 .nil)) .nil (fun _ _ => rfl) (fun _ _ => rfl) rfl) rfl fun u10 _ => ?_
    refine .opp (P.mov .t0) rfl ?_
    refine .opp (P.ext (v := u10) .g0 rfl) rfl ?_
    refine .opp (P.ext (v := N r8.2) .t1 rfl) rfl ?_
    refine .opp (P.asg .t1) rfl ?_
    refine .op0 (OpP.toV (P.asg .t1)) rfl ?_
    refine .nil ?_
    refine .then ?_
    refine .seq ?_
    refine .reg rfl ?_
    refine .opp (P.mov .t0) rfl ?_
    refine .onel .k2 fun ho12 => ?_
    refine .opg (G.bsl (cs := [u10]) .t0 runUnderlying94 sizeOf40 zeroValue40 (cells1 ho12) rfl rfl rfl rfl) rfl fun u11 _ => ?_
    refine .frz .k0 ?_
    refine .frz .k2 ?_
    obtain ⟨r13, hr14, h⟩ := bnd_eq h
    refine .opg (G.call call47 (.cons .t0 .nil) (S_hash_Text_n1 u11 u10 r8.1 r13 hr14) .nil (.cons Mm.m1 (.cons Mm.m0 .nil)) (fun _ _ => rfl) (fun _ _ => rfl) rfl) rfl fun _ _ => ?_
    refine .opp (P.asg .t0) rfl ?_
    refine .nil ?_
    refine .then ?_
    refine .ret ?_
    cases h
    exact .finw () (.r1 rfl (.tmp .g0)) trivial (Ls.of .nil) .nil
attribute [irreducible] deal_Key
noncomputable def slices_Backward_uint64  : Unit :=
  ()
set_option maxRecDepth 20000 in
set_option maxHeartbeats 1000000 in
theorem S_slices_Backward_uint64 (v00 : Value) (hv00 : IsSl v00) (r : Unit) (h : slices_Backward_uint64  = r) :
    SpecF Try.prog 83 [v00] [] [] (fun z : Nat => True) (fun z => fnv 88 [pt z 0]) (fun z M => blk z 129 [v00] ::  M) (fun z M =>  M) := by
  refine .of func83 rfl ntmps83 rfl fun w0 D0 G0 => ?_
  unfold slices_Backward_uint64 at h
  refine .seq ?_
  refine .reg rfl ?_
  refine .opx (X.box (cs := [v00]) .t0 hv00.cells) rfl fun b1 => ?_
  refine .op0 (OpP.toV (P.asg .k)) rfl ?_
  refine .nil ?_
  refine .then ?_
  refine .seq ?_
  refine .reg rfl ?_
  refine .opp (P.mkf (.cons .t0 .nil)) rfl ?_
  refine .opp (P.asg .t0) rfl ?_
  refine .nil ?_
  refine .then ?_
  refine .ret ?_
  subst h
  exact .finw b1 (.r1 rfl (.tmp .g0)) trivial (Ls.of (.cons .k0 .nil)) .nil
attribute [irreducible] slices_Backward_uint64
noncomputable def blob_Wide (a0 : api_Wide) : Option ((List UInt8)) :=
  Option.bind (loopW (fun (s12 : Int × (List UInt8)) => if (decide (s12.1 ≥ 0)) = true then (grd (0 ≤ s12.1) <| grd ((s12.2.length + ([B8i ((rshU a0.a3 s12.1).toNat : Int)] : List UInt8).length) * 1 ≤ 140737488355328) <| some (.nx ((IntKind.i64.wrap (s12.1 - 8), (s12.2 ++ ([B8i ((rshU a0.a3 s12.1).toNat : Int)] : List UInt8)))))) else (some (.br (s12.1, s12.2)))) (56, [])) fun o14 => Lo.on o14 fun (s12 : Int × (List UInt8)) => Option.bind (loopW (fun (s31 : Int × (List UInt8)) => if (decide (s31.1 ≥ 0)) = true then (grd (0 ≤ s31.1) <| grd ((s31.2.length + ([B8i ((rshU a0.a2 s31.1).toNat : Int)] : List UInt8).length) * 1 ≤ 140737488355328) <| some (.nx ((IntKind.i64.wrap (s31.1 - 8), (s31.2 ++ ([B8i ((rshU a0.a2 s31.1).toNat : Int)] : List UInt8)))))) else (some (.br (s31.1, s31.2)))) (56, s12.2)) fun o33 => Lo.on o33 fun (s31 : Int × (List UInt8)) => Option.bind (loopW (fun (s50 : Int × (List UInt8)) => if (decide (s50.1 ≥ 0)) = true then (grd (0 ≤ s50.1) <| grd ((s50.2.length + ([B8i ((rshU a0.a1 s50.1).toNat : Int)] : List UInt8).length) * 1 ≤ 140737488355328) <| some (.nx ((IntKind.i64.wrap (s50.1 - 8), (s50.2 ++ ([B8i ((rshU a0.a1 s50.1).toNat : Int)] : List UInt8)))))) else (some (.br (s50.1, s50.2)))) (56, s31.2)) fun o52 => Lo.on o52 fun (s50 : Int × (List UInt8)) => Option.bind (loopW (fun (s69 : Int × (List UInt8)) => if (decide (s69.1 ≥ 0)) = true then (grd (0 ≤ s69.1) <| grd ((s69.2.length + ([B8i ((rshU a0.a0 s69.1).toNat : Int)] : List UInt8).length) * 1 ≤ 140737488355328) <| some (.nx ((IntKind.i64.wrap (s69.1 - 8), (s69.2 ++ ([B8i ((rshU a0.a0 s69.1).toNat : Int)] : List UInt8)))))) else (some (.br (s69.1, s69.2)))) (56, s50.2)) fun o71 => Lo.on o71 fun (s69 : Int × (List UInt8)) => some s69.2
set_option maxRecDepth 20000 in
set_option maxHeartbeats 1000000 in
theorem S_blob_Wide (a0 : api_Wide) (r : (List UInt8)) (h : blob_Wide a0 = some r) :
    SpecF Try.prog 69 [Ag (api_Wide.cs a0)] [] [] (fun z : Value => True) (fun z => z) (fun z M => lst 5 1 z (r.map (fun x => [B8 x])) ::  M) (fun z M =>  M) := by
  refine .of func69 rfl ntmps69 rfl fun w0 D0 G0 => ?_
  unfold blob_Wide at h
  refine .seq ?_
  refine .reg rfl ?_
  refine .opx (X.box (cs := (api_Wide.cs a0)) .t0 rfl) rfl fun b1 => ?_
  refine .op0 (OpP.toV (P.asg .k)) rfl ?_
  refine .nil ?_
  refine .then ?_
  refine .seq ?_
  refine .reg rfl ?_
  refine .opx (X.alc (cs := [nilSl]) zeroValue40 rfl) rfl fun b2 => ?_
  refine .nil ?_
  refine .then ?_
  refine .seq ?_
  refine .seq ?_
  refine .reg rfl ?_
  refine .opp (P.sla .t1 runUnderlying28 sizeOf26) rfl ?_
  refine .opg (G.call call83 (.cons .t0 .nil) (S_slices_Backward_uint64 (.slice (some ⟨b1, 0, none⟩) 4 4) .mk _ rfl) .nil .nil (fun _ _ => rfl) (fun _ _ => rfl) rfl) rfl fun b3 _ => ?_
  refine .nil ?_
  refine .then ?_
  refine .block ?_
  refine .rangeF rfl .t0 call88 func88 rfl ntmps88 rfl fun a4 O5 D6 l7 ha8 hO9 => ?_
  refine .seq ?_
  refine .reg rfl ?_
  refine .op (V.ld (v := (.slice (some ⟨b1, 0, none⟩) 4 4)) .g1 .k2 (.one isAgg129 rfl)) rfl ?_
  refine .opp (P.lena .t0 runUnderlying129) rfl ?_
  refine .opp (P.bin (v := N 3) .t0 .k (.subc (by decide))) rfl ?_
  refine .opp (P.asg .t0) rfl ?_
  refine .nil ?_
  refine .then ?_
  refine .block ?_
  refine .rounds 5 ?_
  refine .rd ?_
  refine .seq ?_
  refine .seq ?_
  refine .reg rfl ?_
  refine .opp (P.mov .g0) rfl ?_
  refine .opp (P.bin (v := Bo true) .t0 .k (BinV.geq.boolc (by decide))) rfl ?_
  refine .nil ?_
  refine .then ?_
  refine .condT .t0 ?_
  refine .skip ?_
  refine .then ?_
  refine .seq ?_
  refine .block ?_
  refine .seq ?_
  refine .regY 6 rfl ?_
  refine .opp (P.mov .g1) rfl ?_
  refine .opp (P.mov .g1) rfl ?_
  refine .op (V.ld (v := (.slice (some ⟨b1, 0, none⟩) 4 4)) .g4 .k2 (.one isAgg129 rfl)) rfl ?_
  refine .opp (P.mov .g3) rfl ?_
  refine .opp (P.ixa (i := 3) .t0 rfl .t0 runUnderlying129 sizeOf26 (by decide) rfl) rfl ?_
  refine .op (V.ld (v := U a0.a3) .t0 .k4 (.one isAgg26 rfl)) rfl ?_
  refine .nil ?_
  refine .then ?_
  refine .yield (ps := [9, 10]) .t2 (.cons .t1 (.cons .t0 .nil)) hO9 .k0 rfl rfl (by decide) fun a10 ha11 => ?_
  refine .reg rfl ?_
  refine .opp (P.asg .t1) rfl ?_
  refine .nil ?_
  refine .then ?_
  refine .bg rfl hO9 .k0 ?_
  refine .block ?_
  refine .seq ?_
  refine .reg rfl ?_
  refine .opp (P.asg .k) rfl ?_
  refine .nil ?_
  refine .then ?_
  refine .block ?_
  refine .lnil 5 1 ?_
  obtain ⟨o14, ho15, h⟩ := bnd_eq h
  refine .loopW (γ := Value) (fun (s12 : Int × (List UInt8)) z13 => [(6, N s12.1), (5, U a0.a3), (3, pt b2 0)]) (fun (s12 : Int × (List UInt8)) z13 => [blk b2 40 [z13], blk b3 129 [(.slice (some ⟨b1, 0, none⟩) 4 4)], blk b1 28 (api_Wide.cs a0), lst 5 1 z13 (s12.2.map (fun x => [B8 x])), obj l7 (O5 .busy none), obj D6 (.deferred (some []))]) (fun (s12 : Int × (List UInt8)) z13 => []) nilSl ho15 (.cons Mm.m0 (.cons Mm.m1 (.cons Mm.m3 .nil))) (.of (.cons .k4 (.cons .k3 (.cons .k3 (.cons .k0 (.cons .k0 (.cons .k0 .nil))))))) .nil (fun n20 s12 z13 hr18 => ?_)
  obtain ⟨ct19, hc16, hn17⟩ := loopK_at hr18
  refine .seq ?_
  refine .seq ?_
  refine .reg rfl ?_
  refine .opp (P.mov .g0) rfl ?_
  refine .opp (P.bin .t0 .k .geq) rfl ?_
  refine .nil ?_
  refine .then ?_
  refine .cond .t0 (fun c21 => ?_) (fun c21 => ?_)
  · rw [if_pos c21] at hc16
    refine .skip ?_
    refine .then ?_
    refine .seq ?_
    refine .block ?_
    obtain ⟨hb22, hc16⟩ := grd_eq hc16
    obtain ⟨hb25, hc16⟩ := grd_eq hc16
    refine .dcut (γ := Value × Value) (φ := fun _ => True) (E1 := fun x_ => [(6, N s12.1), (5, U a0.a3), (3, pt b2 0)]) (L1 := fun x_ => [blk b2 40 [x_.2], lst 5 1 x_.2 ((s12.2 ++ ([B8i ((rshU a0.a3 s12.1).toNat : Int)] : List UInt8)).map (fun x => [B8 x])), lst 5 1 x_.1 [[B8 (B8i ((rshU a0.a3 s12.1).toNat : Int))]], blk b3 129 [(.slice (some ⟨b1, 0, none⟩) 4 4)], blk b1 28 (api_Wide.cs a0), obj l7 (O5 .busy none), obj D6 (.deferred (some []))]) (R1 := fun x_ => []) ?_ (fun x_ _ => ?_)
    · refine .draw 5 (.on 1 .pu (.on 2 .pu (.on 3 .pu (.on 4 .pu (.fk 0 5 (.on 5 .go (.on 6 .go (.on 7 .go .nl))) (.on 0 .go (.on 6 .go (.on 7 .go .nl)))))))) follows_mixed (.thn (.inb (.thn (.thn (.inb (.inb .rnd)))))) (by kernel_rfl) ?_
      refine .dpu rfl (.n rfl) (P.mov .g1) rfl rfl ?_
      refine .dpu rfl (.n rfl) (P.mov .g1) rfl rfl ?_
      refine .dpu rfl (.n rfl) (P.bin .t1 .t0 (BinV.shrU (x := a0.a3) (n := s12.1) hb22)) rfl rfl ?_
      refine .dpu rfl (.n rfl) (P.cnvB8 (m := ((rshU a0.a3 s12.1).toNat : Int)) .t0 runUnderlying26 runUnderlying5) rfl rfl ?_
      refine .dfk ?_ ?_
      · refine .dgo rfl (.n rfl) (OpV.g (V.ld (v := z13) .g3 .k0 (.one isAgg40 rfl)) rfl) (.inr fun _ _ _ h => h) fun _ _ => ?_
        refine .dgo rfl (.n rfl) (G.bsl (cs := [B8 (B8i ((rshU a0.a3 s12.1).toNat : Int))]) .t1 runUnderlying40 sizeOf5 zeroValue5 rfl rfl rfl rfl rfl) (.inl rfl) fun u23 _ => ?_
        refine .dgo rfl (.n rfl) (G.app (by_ := 1) .t1 .t0 .k4 (.inr (.inr ⟨_, Mm.m0⟩)) runUnderlying40 runUnderlying40 sizeOf5 typeInfo5 rfl rfl zeroValue5 rfl rfl (by simpa using hb25) rfl) (.inl rfl) fun u24 _ => ?_
        refine .conseq .k0 (q := lst 5 1 u24 ((s12.2 ++ ([B8i ((rshU a0.a3 s12.1).toNat : Int)] : List UInt8)).map (fun x => [B8 x]))) (fun _ hh => by simpa [List.map_append] using hh) ?_
        refine .onel .k0 fun ho26 => ?_
        refine .dgo rfl (.n rfl) (G.str .t0 .g2 .k2 (.mk1 (cs' := [u24]) sizeOf40 rfl ho26 rfl rfl)) (.inl rfl) fun _ _ => ?_
        refine .dnil ?_
        exact .dst ⟨u23, u24⟩ trivial (.cons Mm.m0 (.cons Mm.m1 (.cons Mm.m2 .nil))) (Ls.of (.cons .k0 (.cons .k0 (.cons .k0 (.cons .k0 (.cons .k0 (.cons .k0 (.cons .k0 .nil)))))))) .nil
      · refine .dgo rfl (.n rfl) (G.bsl (cs := [B8 (B8i ((rshU a0.a3 s12.1).toNat : Int))]) .t0 runUnderlying40 sizeOf5 zeroValue5 rfl rfl rfl rfl rfl) (.inl rfl) fun u23 _ => ?_
        refine .dgo rfl (.n rfl) (OpV.g (V.ld (v := z13) .g3 .k1 (.one isAgg40 rfl)) rfl) (.inl rfl) fun _ _ => ?_
        refine .dgo rfl (.n rfl) (G.app (by_ := 1) .t0 .t0 .k4 (.inr (.inr ⟨_, Mm.m0⟩)) runUnderlying40 runUnderlying40 sizeOf5 typeInfo5 rfl rfl zeroValue5 rfl rfl (by simpa using hb25) rfl) (.inl rfl) fun u24 _ => ?_
        refine .conseq .k0 (q := lst 5 1 u24 ((s12.2 ++ ([B8i ((rshU a0.a3 s12.1).toNat : Int)] : List UInt8)).map (fun x => [B8 x]))) (fun _ hh => by simpa [List.map_append] using hh) ?_
        refine .onel .k0 fun ho26 => ?_
        refine .dgo rfl (.n rfl) (G.str .t0 .g2 .k2 (.mk1 (cs' := [u24]) sizeOf40 rfl ho26 rfl rfl)) (.inl rfl) fun _ _ => ?_
        refine .dnil ?_
        exact .dst ⟨u23, u24⟩ trivial (.cons Mm.m0 (.cons Mm.m1 (.cons Mm.m2 .nil))) (Ls.of (.cons .k0 (.cons .k0 (.cons .k0 (.cons .k0 (.cons .k0 (.cons .k0 (.cons .k0 .nil)))))))) .nil
    · obtain ⟨u23, u24⟩ := x_
      refine .inn ?_
      refine .then ?_
      refine .reg rfl ?_
      refine .opp (P.mov .g0) rfl ?_
      refine .opp (P.bin .t0 .k .sub) rfl ?_
      refine .drop .k1 ?_
      refine .opp (P.asg .t0) rfl ?_
      refine .nil ?_
      cases hc16
      obtain ⟨m27, hm28, hn17⟩ := hn17
      exact .rdW ((IntKind.i64.wrap (s12.1 - 8), (s12.2 ++ ([B8i ((rshU a0.a3 s12.1).toNat : Int)] : List UInt8)))) u24 hm28 hn17 (.cons Mm.m0 (.cons Mm.m1 (.cons Mm.m2 .nil))) (.of (.cons .k0 (.cons .k2 (.cons .k2 (.cons .k0 (.cons .k1 (.cons .k1 .nil))))))) .nil
  · rw [if_neg (ne_true_of_eq_false c21)] at hc16
    refine .exit ?_
    refine .thx ?_
    cases hc16
    refine .told (γ := Value) h hn17 (fun (s12 : Int × (List UInt8)) z13 => [(6, N s12.1), (5, U a0.a3), (3, pt b2 0)]) (fun (s12 : Int × (List UInt8)) z13 => [blk b2 40 [z13], blk b3 129 [(.slice (some ⟨b1, 0, none⟩) 4 4)], blk b1 28 (api_Wide.cs a0), lst 5 1 z13 (s12.2.map (fun x => [B8 x])), obj l7 (O5 .busy none), obj D6 (.deferred (some []))]) (fun (s12 : Int × (List UInt8)) z13 => []) z13 (.cons Mm.m0 (.cons Mm.m1 (.cons Mm.m2 .nil))) (.of (.cons .k0 (.cons .k0 (.cons .k0 (.cons .k0 (.cons .k0 (.cons .k0 .nil))))))) .nil (fun s12 z13 h' => ?_)
    replace h := h'
    refine .thx ?_
    refine .inb ?_
    refine .inn ?_
    refine .rnorm rfl ⟨rfl, rfl, rfl⟩ ha11 hO9 .k4 rfl ?_
    refine .inL rfl ?_
    refine .opp (P.not .t0) rfl ?_
    refine .nil ?_
    refine .then ?_
    refine .condF .t0 ?_
    refine .skip ?_
    refine .inn ?_
    refine .then ?_
    refine .reg rfl ?_
    refine .opp (P.mov .g0) rfl ?_
    refine .opp (P.bin (v := N 2) .t0 .k (.subc (by decide))) rfl ?_
    refine .drop .k1 ?_
    refine .opp (P.asg .t0) rfl ?_
    refine .nil ?_
    refine .then ?_
    refine .rd ?_
    refine .seq ?_
    refine .seq ?_
    refine .reg rfl ?_
    refine .opp (P.mov .g0) rfl ?_
    refine .opp (P.bin (v := Bo true) .t0 .k (BinV.geq.boolc (by decide))) rfl ?_
    refine .nil ?_
    refine .then ?_
    refine .condT .t0 ?_
    refine .skip ?_
    refine .then ?_
    refine .seq ?_
    refine .block ?_
    refine .seq ?_
    refine .regY 6 rfl ?_
    refine .opp (P.mov .g1) rfl ?_
    refine .opp (P.mov .g1) rfl ?_
    refine .op (V.ld (v := (.slice (some ⟨b1, 0, none⟩) 4 4)) .g4 .k2 (.one isAgg129 rfl)) rfl ?_
    refine .opp (P.mov .g3) rfl ?_
    refine .opp (P.ixa (i := 2) .t0 rfl .t0 runUnderlying129 sizeOf26 (by decide) rfl) rfl ?_
    refine .op (V.ld (v := U a0.a2) .t0 .k3 (.one isAgg26 rfl)) rfl ?_
    refine .nil ?_
    refine .then ?_
    refine .yield (ps := [9, 10]) .t2 (.cons .t1 (.cons .t0 .nil)) hO9 .k0 rfl rfl (by decide) fun a29 ha30 => ?_
    refine .reg rfl ?_
    refine .opp (P.asg .t1) rfl ?_
    refine .nil ?_
    refine .then ?_
    refine .bg rfl hO9 .k0 ?_
    refine .block ?_
    refine .seq ?_
    refine .reg rfl ?_
    refine .opp (P.asg .k) rfl ?_
    refine .nil ?_
    refine .then ?_
    refine .block ?_
    obtain ⟨o33, ho34, h⟩ := bnd_eq h
    refine .loopW (γ := Value) (fun (s31 : Int × (List UInt8)) z32 => [(6, N s31.1), (5, U a0.a2), (3, pt b2 0)]) (fun (s31 : Int × (List UInt8)) z32 => [blk b2 40 [z32], blk b3 129 [(.slice (some ⟨b1, 0, none⟩) 4 4)], blk b1 28 (api_Wide.cs a0), lst 5 1 z32 (s31.2.map (fun x => [B8 x])), obj l7 (O5 .busy none), obj D6 (.deferred (some []))]) (fun (s31 : Int × (List UInt8)) z32 => []) z13 ho34 (.cons Mm.m0 (.cons Mm.m1 (.cons Mm.m3 .nil))) (.of (.cons .k1 (.cons .k1 (.cons .k1 (.cons .k1 (.cons .k0 (.cons .k0 .nil))))))) .nil (fun n39 s31 z32 hr37 => ?_)
    obtain ⟨ct38, hc35, hn36⟩ := loopK_at hr37
    refine .seq ?_
    refine .seq ?_
    refine .reg rfl ?_
    refine .opp (P.mov .g0) rfl ?_
    refine .opp (P.bin .t0 .k .geq) rfl ?_
    refine .nil ?_
    refine .then ?_
    refine .cond .t0 (fun c40 => ?_) (fun c40 => ?_)
    · rw [if_pos c40] at hc35
      refine .skip ?_
      refine .then ?_
      refine .seq ?_
      refine .block ?_
      obtain ⟨hb41, hc35⟩ := grd_eq hc35
      obtain ⟨hb44, hc35⟩ := grd_eq hc35
      refine .dcut (γ := Value × Value) (φ := fun _ => True) (E1 := fun x_ => [(6, N s31.1), (5, U a0.a2), (3, pt b2 0)]) (L1 := fun x_ => [blk b2 40 [x_.2], lst 5 1 x_.2 ((s31.2 ++ ([B8i ((rshU a0.a2 s31.1).toNat : Int)] : List UInt8)).map (fun x => [B8 x])), lst 5 1 x_.1 [[B8 (B8i ((rshU a0.a2 s31.1).toNat : Int))]], blk b3 129 [(.slice (some ⟨b1, 0, none⟩) 4 4)], blk b1 28 (api_Wide.cs a0), obj l7 (O5 .busy none), obj D6 (.deferred (some []))]) (R1 := fun x_ => []) ?_ (fun x_ _ => ?_)
      · refine .draw 5 (.on 1 .pu (.on 2 .pu (.on 3 .pu (.on 4 .pu (.fk 0 5 (.on 5 .go (.on 6 .go (.on 7 .go .nl))) (.on 0 .go (.on 6 .go (.on 7 .go .nl)))))))) follows_mixed (.thn (.inb (.thn (.thn (.inb (.inb .rnd)))))) (by kernel_rfl) ?_
        refine .dpu rfl (.n rfl) (P.mov .g1) rfl rfl ?_
        refine .dpu rfl (.n rfl) (P.mov .g1) rfl rfl ?_
        refine .dpu rfl (.n rfl) (P.bin .t1 .t0 (BinV.shrU (x := a0.a2) (n := s31.1) hb41)) rfl rfl ?_
        refine .dpu rfl (.n rfl) (P.cnvB8 (m := ((rshU a0.a2 s31.1).toNat : Int)) .t0 runUnderlying26 runUnderlying5) rfl rfl ?_
        refine .dfk ?_ ?_
        · refine .dgo rfl (.n rfl) (OpV.g (V.ld (v := z32) .g3 .k0 (.one isAgg40 rfl)) rfl) (.inr fun _ _ _ h => h) fun _ _ => ?_
          refine .dgo rfl (.n rfl) (G.bsl (cs := [B8 (B8i ((rshU a0.a2 s31.1).toNat : Int))]) .t1 runUnderlying40 sizeOf5 zeroValue5 rfl rfl rfl rfl rfl) (.inl rfl) fun u42 _ => ?_
          refine .dgo rfl (.n rfl) (G.app (by_ := 1) .t1 .t0 .k4 (.inr (.inr ⟨_, Mm.m0⟩)) runUnderlying40 runUnderlying40 sizeOf5 typeInfo5 rfl rfl zeroValue5 rfl rfl (by simpa using hb44) rfl) (.inl rfl) fun u43 _ => ?_
          refine .conseq .k0 (q := lst 5 1 u43 ((s31.2 ++ ([B8i ((rshU a0.a2 s31.1).toNat : Int)] : List UInt8)).map (fun x => [B8 x]))) (fun _ hh => by simpa [List.map_append] using hh) ?_
          refine .onel .k0 fun ho45 => ?_
          refine .dgo rfl (.n rfl) (G.str .t0 .g2 .k2 (.mk1 (cs' := [u43]) sizeOf40 rfl ho45 rfl rfl)) (.inl rfl) fun _ _ => ?_
          refine .dnil ?_
          exact .dst ⟨u42, u43⟩ trivial (.cons Mm.m0 (.cons Mm.m1 (.cons Mm.m2 .nil))) (Ls.of (.cons .k0 (.cons .k0 (.cons .k0 (.cons .k0 (.cons .k0 (.cons .k0 (.cons .k0 .nil)))))))) .nil
        · refine .dgo rfl (.n rfl) (G.bsl (cs := [B8 (B8i ((rshU a0.a2 s31.1).toNat : Int))]) .t0 runUnderlying40 sizeOf5 zeroValue5 rfl rfl rfl rfl rfl) (.inl rfl) fun u42 _ => ?_
          refine .dgo rfl (.n rfl) (OpV.g (V.ld (v := z32) .g3 .k1 (.one isAgg40 rfl)) rfl) (.inl rfl) fun _ _ => ?_
          refine .dgo rfl (.n rfl) (G.app (by_ := 1) .t0 .t0 .k4 (.inr (.inr ⟨_, Mm.m0⟩)) runUnderlying40 runUnderlying40 sizeOf5 typeInfo5 rfl rfl zeroValue5 rfl rfl (by simpa using hb44) rfl) (.inl rfl) fun u43 _ => ?_
          refine .conseq .k0 (q := lst 5 1 u43 ((s31.2 ++ ([B8i ((rshU a0.a2 s31.1).toNat : Int)] : List UInt8)).map (fun x => [B8 x]))) (fun _ hh => by simpa [List.map_append] using hh) ?_
          refine .onel .k0 fun ho45 => ?_
          refine .dgo rfl (.n rfl) (G.str .t0 .g2 .k2 (.mk1 (cs' := [u43]) sizeOf40 rfl ho45 rfl rfl)) (.inl rfl) fun _ _ => ?_
          refine .dnil ?_
          exact .dst ⟨u42, u43⟩ trivial (.cons Mm.m0 (.cons Mm.m1 (.cons Mm.m2 .nil))) (Ls.of (.cons .k0 (.cons .k0 (.cons .k0 (.cons .k0 (.cons .k0 (.cons .k0 (.cons .k0 .nil)))))))) .nil
      · obtain ⟨u42, u43⟩ := x_
        refine .inn ?_
        refine .then ?_
        refine .reg rfl ?_
        refine .opp (P.mov .g0) rfl ?_
        refine .opp (P.bin .t0 .k .sub) rfl ?_
        refine .drop .k1 ?_
        refine .opp (P.asg .t0) rfl ?_
        refine .nil ?_
        cases hc35
        obtain ⟨m46, hm47, hn36⟩ := hn36
        exact .rdW ((IntKind.i64.wrap (s31.1 - 8), (s31.2 ++ ([B8i ((rshU a0.a2 s31.1).toNat : Int)] : List UInt8)))) u43 hm47 hn36 (.cons Mm.m0 (.cons Mm.m1 (.cons Mm.m2 .nil))) (.of (.cons .k0 (.cons .k2 (.cons .k2 (.cons .k0 (.cons .k1 (.cons .k1 .nil))))))) .nil
    · rw [if_neg (ne_true_of_eq_false c40)] at hc35
      refine .exit ?_
      refine .thx ?_
      cases hc35
      refine .told (γ := Value) h hn36 (fun (s31 : Int × (List UInt8)) z32 => [(6, N s31.1), (5, U a0.a2), (3, pt b2 0)]) (fun (s31 : Int × (List UInt8)) z32 => [blk b2 40 [z32], blk b3 129 [(.slice (some ⟨b1, 0, none⟩) 4 4)], blk b1 28 (api_Wide.cs a0), lst 5 1 z32 (s31.2.map (fun x => [B8 x])), obj l7 (O5 .busy none), obj D6 (.deferred (some []))]) (fun (s31 : Int × (List UInt8)) z32 => []) z32 (.cons Mm.m0 (.cons Mm.m1 (.cons Mm.m2 .nil))) (.of (.cons .k0 (.cons .k0 (.cons .k0 (.cons .k0 (.cons .k0 (.cons .k0 .nil))))))) .nil (fun s31 z32 h' => ?_)
      replace h := h'
      refine .thx ?_
      refine .inb ?_
      refine .inn ?_
      refine .rnorm rfl ⟨rfl, rfl, rfl⟩ ha30 hO9 .k4 rfl ?_
      refine .inL rfl ?_
      refine .opp (P.not .t0) rfl ?_
      refine .nil ?_
      refine .then ?_
      refine .condF .t0 ?_
      refine .skip ?_
      refine .inn ?_
      refine .then ?_
      refine .reg rfl ?_
      refine .opp (P.mov .g0) rfl ?_
      refine .opp (P.bin (v := N 1) .t0 .k (.subc (by decide))) rfl ?_
      refine .drop .k1 ?_
      refine .opp (P.asg .t0) rfl ?_
      refine .nil ?_
      refine .then ?_
      refine .rd ?_
      refine .seq ?_
      refine .seq ?_
      refine .reg rfl ?_
      refine .opp (P.mov .g0) rfl ?_
      refine .opp (P.bin (v := Bo true) .t0 .k (BinV.geq.boolc (by decide))) rfl ?_
      refine .nil ?_
      refine .then ?_
      refine .condT .t0 ?_
      refine .skip ?_
      refine .then ?_
      refine .seq ?_
      refine .block ?_
      refine .seq ?_
      refine .regY 6 rfl ?_
      refine .opp (P.mov .g1) rfl ?_
      refine .opp (P.mov .g1) rfl ?_
      refine .op (V.ld (v := (.slice (some ⟨b1, 0, none⟩) 4 4)) .g4 .k2 (.one isAgg129 rfl)) rfl ?_
      refine .opp (P.mov .g3) rfl ?_
      refine .opp (P.ixa (i := 1) .t0 rfl .t0 runUnderlying129 sizeOf26 (by decide) rfl) rfl ?_
      refine .op (V.ld (v := U a0.a1) .t0 .k3 (.one isAgg26 rfl)) rfl ?_
      refine .nil ?_
      refine .then ?_
      refine .yield (ps := [9, 10]) .t2 (.cons .t1 (.cons .t0 .nil)) hO9 .k0 rfl rfl (by decide) fun a48 ha49 => ?_
      refine .reg rfl ?_
      refine .opp (P.asg .t1) rfl ?_
      refine .nil ?_
      refine .then ?_
      refine .bg rfl hO9 .k0 ?_
      refine .block ?_
      refine .seq ?_
      refine .reg rfl ?_
      refine .opp (P.asg .k) rfl ?_
      refine .nil ?_
      refine .then ?_
      refine .block ?_
      obtain ⟨o52, ho53, h⟩ := bnd_eq h
      refine .loopW (γ := Value) (fun (s50 : Int × (List UInt8)) z51 => [(6, N s50.1), (5, U a0.a1), (3, pt b2 0)]) (fun (s50 : Int × (List UInt8)) z51 => [blk b2 40 [z51], blk b3 129 [(.slice (some ⟨b1, 0, none⟩) 4 4)], blk b1 28 (api_Wide.cs a0), lst 5 1 z51 (s50.2.map (fun x => [B8 x])), obj l7 (O5 .busy none), obj D6 (.deferred (some []))]) (fun (s50 : Int × (List UInt8)) z51 => []) z32 ho53 (.cons Mm.m0 (.cons Mm.m1 (.cons Mm.m3 .nil))) (.of (.cons .k1 (.cons .k1 (.cons .k1 (.cons .k1 (.cons .k0 (.cons .k0 .nil))))))) .nil (fun n58 s50 z51 hr56 => ?_)
      obtain ⟨ct57, hc54, hn55⟩ := loopK_at hr56
      refine .seq ?_
      refine .seq ?_
      refine .reg rfl ?_
      refine .opp (P.mov .g0) rfl ?_
      refine .opp (P.bin .t0 .k .geq) rfl ?_
      refine .nil ?_
      refine .then ?_
      refine .cond .t0 (fun c59 => ?_) (fun c59 => ?_)
      · rw [if_pos c59] at hc54
        refine .skip ?_
        refine .then ?_
        refine .seq ?_
        refine .block ?_
        obtain ⟨hb60, hc54⟩ := grd_eq hc54
        obtain ⟨hb63, hc54⟩ := grd_eq hc54
        refine .dcut (γ := Value × Value) (φ := fun _ => True) (E1 := fun x_ => [(6, N s50.1), (5, U a0.a1), (3, pt b2 0)]) (L1 := fun x_ => [blk b2 40 [x_.2], lst 5 1 x_.2 ((s50.2 ++ ([B8i ((rshU a0.a1 s50.1).toNat : Int)] : List UInt8)).map (fun x => [B8 x])), lst 5 1 x_.1 [[B8 (B8i ((rshU a0.a1 s50.1).toNat : Int))]], blk b3 129 [(.slice (some ⟨b1, 0, none⟩) 4 4)], blk b1 28 (api_Wide.cs a0), obj l7 (O5 .busy none), obj D6 (.deferred (some []))]) (R1 := fun x_ => []) ?_ (fun x_ _ => ?_)
        · refine .draw 5 (.on 1 .pu (.on 2 .pu (.on 3 .pu (.on 4 .pu (.fk 0 5 (.on 5 .go (.on 6 .go (.on 7 .go .nl))) (.on 0 .go (.on 6 .go (.on 7 .go .nl)))))))) follows_mixed (.thn (.inb (.thn (.thn (.inb (.inb .rnd)))))) (by kernel_rfl) ?_
          refine .dpu rfl (.n rfl) (P.mov .g1) rfl rfl ?_
          refine .dpu rfl (.n rfl) (P.mov .g1) rfl rfl ?_
          refine .dpu rfl (.n rfl) (P.bin .t1 .t0 (BinV.shrU (x := a0.a1) (n := s50.1) hb60)) rfl rfl ?_
          refine .dpu rfl (.n rfl) (P.cnvB8 (m := ((rshU a0.a1 s50.1).toNat : Int)) .t0 runUnderlying26 runUnderlying5) rfl rfl ?_
          refine .dfk ?_ ?_
          · refine .dgo rfl (.n rfl) (OpV.g (V.ld (v := z51) .g3 .k0 (.one isAgg40 rfl)) rfl) (.inr fun _ _ _ h => h) fun _ _ => ?_
            refine .dgo rfl (.n rfl) (G.bsl (cs := [B8 (B8i ((rshU a0.a1 s50.1).toNat : Int))]) .t1 runUnderlying40 sizeOf5 zeroValue5 rfl rfl rfl rfl rfl) (.inl rfl) fun u61 _ => ?_
            refine .dgo rfl (.n rfl) (G.app (by_ := 1) .t1 .t0 .k4 (.inr (.inr ⟨_, Mm.m0⟩)) runUnderlying40 runUnderlying40 sizeOf5 typeInfo5 rfl rfl zeroValue5 rfl rfl (by simpa using hb63) rfl) (.inl rfl) fun u62 _ => ?_
            refine .conseq .k0 (q := lst 5 1 u62 ((s50.2 ++ ([B8i ((rshU a0.a1 s50.1).toNat : Int)] : List UInt8)).map (fun x => [B8 x]))) (fun _ hh => by simpa [List.map_append] using hh) ?_
            refine .onel .k0 fun ho64 => ?_
            refine .dgo rfl (.n rfl) (G.str .t0 .g2 .k2 (.mk1 (cs' := [u62]) sizeOf40 rfl ho64 rfl rfl)) (.inl rfl) fun _ _ => ?_
            refine .dnil ?_
            exact .dst ⟨u61, u62⟩ trivial (.cons Mm.m0 (.cons Mm.m1 (.cons Mm.m2 .nil))) (Ls.of (.cons .k0 (.cons .k0 (.cons .k0 (.cons .k0 (.cons .k0 (.cons .k0 (.cons .k0 .nil)))))))) .nil
          · refine .dgo rfl (.n rfl) (G.bsl (cs := [B8 (B8i ((rshU a0.a1 s50.1).toNat : Int))]) .t0 runUnderlying40 sizeOf5 zeroValue5 rfl rfl rfl rfl rfl) (.inl rfl) fun u61 _ => ?_
            refine .dgo rfl (.n rfl) (OpV.g (V.ld (v := z51) .g3 .k1 (.one isAgg40 rfl)) rfl) (.inl rfl) fun _ _ => ?_
            refine .dgo rfl (.n rfl) (G.app (by_ := 1) .t0 .t0 .k4 (.inr (.inr ⟨_, Mm.m0⟩)) runUnderlying40 runUnderlying40 sizeOf5 typeInfo5 rfl rfl zeroValue5 rfl rfl (by simpa using hb63) rfl) (.inl rfl) fun u62 _ => ?_
            refine .conseq .k0 (q := lst 5 1 u62 ((s50.2 ++ ([B8i ((rshU a0.a1 s50.1).toNat : Int)] : List UInt8)).map (fun x => [B8 x]))) (fun _ hh => by simpa [List.map_append] using hh) ?_
            refine .onel .k0 fun ho64 => ?_
            refine .dgo rfl (.n rfl) (G.str .t0 .g2 .k2 (.mk1 (cs' := [u62]) sizeOf40 rfl ho64 rfl rfl)) (.inl rfl) fun _ _ => ?_
            refine .dnil ?_
            exact .dst ⟨u61, u62⟩ trivial (.cons Mm.m0 (.cons Mm.m1 (.cons Mm.m2 .nil))) (Ls.of (.cons .k0 (.cons .k0 (.cons .k0 (.cons .k0 (.cons .k0 (.cons .k0 (.cons .k0 .nil)))))))) .nil
        · obtain ⟨u61, u62⟩ := x_
          refine .inn ?_
          refine .then ?_
          refine .reg rfl ?_
          refine .opp (P.mov .g0) rfl ?_
          refine .opp (P.bin .t0 .k .sub) rfl ?_
          refine .drop .k1 ?_
          refine .opp (P.asg .t0) rfl ?_
          refine .nil ?_
          cases hc54
          obtain ⟨m65, hm66, hn55⟩ := hn55
          exact .rdW ((IntKind.i64.wrap (s50.1 - 8), (s50.2 ++ ([B8i ((rshU a0.a1 s50.1).toNat : Int)] : List UInt8)))) u62 hm66 hn55 (.cons Mm.m0 (.cons Mm.m1 (.cons Mm.m2 .nil))) (.of (.cons .k0 (.cons .k2 (.cons .k2 (.cons .k0 (.cons .k1 (.cons .k1 .nil))))))) .nil
      · rw [if_neg (ne_true_of_eq_false c59)] at hc54
        refine .exit ?_
        refine .thx ?_
        cases hc54
        refine .told (γ := Value) h hn55 (fun (s50 : Int × (List UInt8)) z51 => [(6, N s50.1), (5, U a0.a1), (3, pt b2 0)]) (fun (s50 : Int × (List UInt8)) z51 => [blk b2 40 [z51], blk b3 129 [(.slice (some ⟨b1, 0, none⟩) 4 4)], blk b1 28 (api_Wide.cs a0), lst 5 1 z51 (s50.2.map (fun x => [B8 x])), obj l7 (O5 .busy none), obj D6 (.deferred (some []))]) (fun (s50 : Int × (List UInt8)) z51 => []) z51 (.cons Mm.m0 (.cons Mm.m1 (.cons Mm.m2 .nil))) (.of (.cons .k0 (.cons .k0 (.cons .k0 (.cons .k0 (.cons .k0 (.cons .k0 .nil))))))) .nil (fun s50 z51 h' => ?_)
        replace h := h'
        refine .thx ?_
        refine .inb ?_
        refine .inn ?_
        refine .rnorm rfl ⟨rfl, rfl, rfl⟩ ha49 hO9 .k4 rfl ?_
        refine .inL rfl ?_
        refine .opp (P.not .t0) rfl ?_
        refine .nil ?_
        refine .then ?_
        refine .condF .t0 ?_
        refine .skip ?_
        refine .inn ?_
        refine .then ?_
        refine .reg rfl ?_
        refine .opp (P.mov .g0) rfl ?_
        refine .opp (P.bin (v := N 0) .t0 .k (.subc (by decide))) rfl ?_
        refine .drop .k1 ?_
        refine .opp (P.asg .t0) rfl ?_
        refine .nil ?_
        refine .then ?_
        refine .rd ?_
        refine .seq ?_
        refine .seq ?_
        refine .reg rfl ?_
        refine .opp (P.mov .g0) rfl ?_
        refine .opp (P.bin (v := Bo true) .t0 .k (BinV.geq.boolc (by decide))) rfl ?_
        refine .nil ?_
        refine .then ?_
        refine .condT .t0 ?_
        refine .skip ?_
        refine .then ?_
        refine .seq ?_
        refine .block ?_
        refine .seq ?_
        refine .regY 6 rfl ?_
        refine .opp (P.mov .g1) rfl ?_
        refine .opp (P.mov .g1) rfl ?_
        refine .op (V.ld (v := (.slice (some ⟨b1, 0, none⟩) 4 4)) .g4 .k2 (.one isAgg129 rfl)) rfl ?_
        refine .opp (P.mov .g3) rfl ?_
        refine .opp (P.ixa (i := 0) .t0 rfl .t0 runUnderlying129 sizeOf26 (by decide) rfl) rfl ?_
        refine .op (V.ld (v := U a0.a0) .t0 .k3 (.one isAgg26 rfl)) rfl ?_
        refine .nil ?_
        refine .then ?_
        refine .yield (ps := [9, 10]) .t2 (.cons .t1 (.cons .t0 .nil)) hO9 .k0 rfl rfl (by decide) fun a67 ha68 => ?_
        refine .reg rfl ?_
        refine .opp (P.asg .t1) rfl ?_
        refine .nil ?_
        refine .then ?_
        refine .bg rfl hO9 .k0 ?_
        refine .block ?_
        refine .seq ?_
        refine .reg rfl ?_
        refine .opp (P.asg .k) rfl ?_
        refine .nil ?_
        refine .then ?_
        refine .block ?_
        obtain ⟨o71, ho72, h⟩ := bnd_eq h
        refine .loopW (γ := Value) (fun (s69 : Int × (List UInt8)) z70 => [(6, N s69.1), (5, U a0.a0), (3, pt b2 0)]) (fun (s69 : Int × (List UInt8)) z70 => [blk b2 40 [z70], blk b3 129 [(.slice (some ⟨b1, 0, none⟩) 4 4)], blk b1 28 (api_Wide.cs a0), lst 5 1 z70 (s69.2.map (fun x => [B8 x])), obj l7 (O5 .busy none), obj D6 (.deferred (some []))]) (fun (s69 : Int × (List UInt8)) z70 => []) z51 ho72 (.cons Mm.m0 (.cons Mm.m1 (.cons Mm.m3 .nil))) (.of (.cons .k1 (.cons .k1 (.cons .k1 (.cons .k1 (.cons .k0 (.cons .k0 .nil))))))) .nil (fun n77 s69 z70 hr75 => ?_)
        obtain ⟨ct76, hc73, hn74⟩ := loopK_at hr75
        refine .seq ?_
        refine .seq ?_
        refine .reg rfl ?_
        refine .opp (P.mov .g0) rfl ?_
        refine .opp (P.bin .t0 .k .geq) rfl ?_
        refine .nil ?_
        refine .then ?_
        refine .cond .t0 (fun c78 => ?_) (fun c78 => ?_)
        · rw [if_pos c78] at hc73
          refine .skip ?_
          refine .then ?_
          refine .seq ?_
          refine .block ?_
          obtain ⟨hb79, hc73⟩ := grd_eq hc73
          obtain ⟨hb82, hc73⟩ := grd_eq hc73
          refine .dcut (γ := Value × Value) (φ := fun _ => True) (E1 := fun x_ => [(6, N s69.1), (5, U a0.a0), (3, pt b2 0)]) (L1 := fun x_ => [blk b2 40 [x_.2], lst 5 1 x_.2 ((s69.2 ++ ([B8i ((rshU a0.a0 s69.1).toNat : Int)] : List UInt8)).map (fun x => [B8 x])), lst 5 1 x_.1 [[B8 (B8i ((rshU a0.a0 s69.1).toNat : Int))]], blk b3 129 [(.slice (some ⟨b1, 0, none⟩) 4 4)], blk b1 28 (api_Wide.cs a0), obj l7 (O5 .busy none), obj D6 (.deferred (some []))]) (R1 := fun x_ => []) ?_ (fun x_ _ => ?_)
          · refine .draw 5 (.on 1 .pu (.on 2 .pu (.on 3 .pu (.on 4 .pu (.fk 0 5 (.on 5 .go (.on 6 .go (.on 7 .go .nl))) (.on 0 .go (.on 6 .go (.on 7 .go .nl)))))))) follows_mixed (.thn (.inb (.thn (.thn (.inb (.inb .rnd)))))) (by kernel_rfl) ?_
            refine .dpu rfl (.n rfl) (P.mov .g1) rfl rfl ?_
            refine .dpu rfl (.n rfl) (P.mov .g1) rfl rfl ?_
            refine .dpu rfl (.n rfl) (P.bin .t1 .t0 (BinV.shrU (x := a0.a0) (n := s69.1) hb79)) rfl rfl ?_
            refine .dpu rfl (.n rfl) (P.cnvB8 (m := ((rshU a0.a0 s69.1).toNat : Int)) .t0 runUnderlying26 runUnderlying5) rfl rfl ?_
            refine .dfk ?_ ?_
            · refine .dgo rfl (.n rfl) (OpV.g (V.ld (v := z70) .g3 .k0 (.one isAgg40 rfl)) rfl) (.inr fun _ _ _ h => h) fun _ _ => ?_
              refine .dgo rfl (.n rfl) (G.bsl (cs := [B8 (B8i ((rshU a0.a0 s69.1).toNat : Int))]) .t1 runUnderlying40 sizeOf5 zeroValue5 rfl rfl rfl rfl rfl) (.inl rfl) fun u80 _ => ?_
              refine .dgo rfl (.n rfl) (G.app (by_ := 1) .t1 .t0 .k4 (.inr (.inr ⟨_, Mm.m0⟩)) runUnderlying40 runUnderlying40 sizeOf5 typeInfo5 rfl rfl zeroValue5 rfl rfl (by simpa using hb82) rfl) (.inl rfl) fun u81 _ => ?_
              refine .conseq .k0 (q := lst 5 1 u81 ((s69.2 ++ ([B8i ((rshU a0.a0 s69.1).toNat : Int)] : List UInt8)).map (fun x => [B8 x]))) (fun _ hh => by simpa [List.map_append] using hh) ?_
              refine .onel .k0 fun ho83 => ?_
              refine .dgo rfl (.n rfl) (G.str .t0 .g2 .k2 (.mk1 (cs' := [u81]) sizeOf40 rfl ho83 rfl rfl)) (.inl rfl) fun _ _ => ?_
              refine .dnil ?_
              exact .dst ⟨u80, u81⟩ trivial (.cons Mm.m0 (.cons Mm.m1 (.cons Mm.m2 .nil))) (Ls.of (.cons .k0 (.cons .k0 (.cons .k0 (.cons .k0 (.cons .k0 (.cons .k0 (.cons .k0 .nil)))))))) .nil
            · refine .dgo rfl (.n rfl) (G.bsl (cs := [B8 (B8i ((rshU a0.a0 s69.1).toNat : Int))]) .t0 runUnderlying40 sizeOf5 zeroValue5 rfl rfl rfl rfl rfl) (.inl rfl) fun u80 _ => ?_
              refine .dgo rfl (.n rfl) (OpV.g (V.ld (v := z70) .g3 .k1 (.one isAgg40 rfl)) rfl) (.inl rfl) fun _ _ => ?_
              refine .dgo rfl (.n rfl) (G.app (by_ := 1) .t0 .t0 .k4 (.inr (.inr ⟨_, Mm.m0⟩)) runUnderlying40 runUnderlying40 sizeOf5 typeInfo5 rfl rfl zeroValue5 rfl rfl (by simpa using hb82) rfl) (.inl rfl) fun u81 _ => ?_
              refine .conseq .k0 (q := lst 5 1 u81 ((s69.2 ++ ([B8i ((rshU a0.a0 s69.1).toNat : Int)] : List UInt8)).map (fun x => [B8 x]))) (fun _ hh => by simpa [List.map_append] using hh) ?_
              refine .onel .k0 fun ho83 => ?_
              refine .dgo rfl (.n rfl) (G.str .t0 .g2 .k2 (.mk1 (cs' := [u81]) sizeOf40 rfl ho83 rfl rfl)) (.inl rfl) fun _ _ => ?_
              refine .dnil ?_
              exact .dst ⟨u80, u81⟩ trivial (.cons Mm.m0 (.cons Mm.m1 (.cons Mm.m2 .nil))) (Ls.of (.cons .k0 (.cons .k0 (.cons .k0 (.cons .k0 (.cons .k0 (.cons .k0 (.cons .k0 .nil)))))))) .nil
          · obtain ⟨u80, u81⟩ := x_
            refine .inn ?_
            refine .then ?_
            refine .reg rfl ?_
            refine .opp (P.mov .g0) rfl ?_
            refine .opp (P.bin .t0 .k .sub) rfl ?_
            refine .drop .k1 ?_
            refine .opp (P.asg .t0) rfl ?_
            refine .nil ?_
            cases hc73
            obtain ⟨m84, hm85, hn74⟩ := hn74
            exact .rdW ((IntKind.i64.wrap (s69.1 - 8), (s69.2 ++ ([B8i ((rshU a0.a0 s69.1).toNat : Int)] : List UInt8)))) u81 hm85 hn74 (.cons Mm.m0 (.cons Mm.m1 (.cons Mm.m2 .nil))) (.of (.cons .k0 (.cons .k2 (.cons .k2 (.cons .k0 (.cons .k1 (.cons .k1 .nil))))))) .nil
        · rw [if_neg (ne_true_of_eq_false c78)] at hc73
          refine .exit ?_
          refine .thx ?_
          cases hc73
          refine .told (γ := Value) h hn74 (fun (s69 : Int × (List UInt8)) z70 => [(6, N s69.1), (5, U a0.a0), (3, pt b2 0)]) (fun (s69 : Int × (List UInt8)) z70 => [blk b2 40 [z70], blk b3 129 [(.slice (some ⟨b1, 0, none⟩) 4 4)], blk b1 28 (api_Wide.cs a0), lst 5 1 z70 (s69.2.map (fun x => [B8 x])), obj l7 (O5 .busy none), obj D6 (.deferred (some []))]) (fun (s69 : Int × (List UInt8)) z70 => []) z70 (.cons Mm.m0 (.cons Mm.m1 (.cons Mm.m2 .nil))) (.of (.cons .k0 (.cons .k0 (.cons .k0 (.cons .k0 (.cons .k0 (.cons .k0 .nil))))))) .nil (fun s69 z70 h' => ?_)
          replace h := h'
          refine .thx ?_
          refine .inb ?_
          refine .inn ?_
          refine .rnorm rfl ⟨rfl, rfl, rfl⟩ ha68 hO9 .k4 rfl ?_
          refine .inL rfl ?_
          refine .opp (P.not .t0) rfl ?_
          refine .nil ?_
          refine .then ?_
          refine .condF .t0 ?_
          refine .skip ?_
          refine .inn ?_
          refine .then ?_
          refine .reg rfl ?_
          refine .opp (P.mov .g0) rfl ?_
          refine .opp (P.bin (v := N (-1)) .t0 .k (.subc (by decide))) rfl ?_
          refine .drop .k1 ?_
          refine .opp (P.asg .t0) rfl ?_
          refine .nil ?_
          refine .then ?_
          refine .rd ?_
          refine .seq ?_
          refine .seq ?_
          refine .reg rfl ?_
          refine .opp (P.mov .g0) rfl ?_
          refine .opp (P.bin (v := Bo false) .t0 .k (BinV.geq.boolc (by decide))) rfl ?_
          refine .nil ?_
          refine .then ?_
          refine .condF .t0 ?_
          refine .exit ?_
          refine .thx ?_
          refine .thx ?_
          refine .inb ?_
          refine .rfinn ha8 hO9 .k0 rfl ?_
          refine .inn ?_
          refine .then ?_
          refine .seq ?_
          refine .reg rfl ?_
          refine .op (V.ld (v := z70) .t0 .k0 (.one isAgg40 rfl)) rfl ?_
          refine .opp (P.asg .t0) rfl ?_
          refine .nil ?_
          refine .then ?_
          refine .ret ?_
          cases h
          exact .finm z70 .k4 (.r1 rfl (.tmp .g0)) trivial (Ls.of (.cons .k3 .nil)) .nil
attribute [irreducible] blob_Wide
noncomputable def field_Out_Wide (a0 : field_Out) (a1 : api_Wide) : Option (field_Out) :=
  Option.bind (blob_Wide a1) fun r2 => Option.bind (field_Out_put a0 r2 0) fun r5 => some r5
set_option maxRecDepth 20000 in
set_option maxHeartbeats 1000000 in
theorem S_field_Out_Wide (b00 : Nat) (a0 : field_Out) (z00a : Value) (a1 : api_Wide) (r : field_Out) (h : field_Out_Wide a0 a1 = some r) :
    SpecF Try.prog 55 [pt b00 0, Ag (api_Wide.cs a1)] [blk b00 105 (field_Out.cs a0 z00a), lst 5 1 z00a (a0.b.map (fun x => [B8 x]))] [] (fun z : Value => True) (fun z => Tu []) (fun z M => blk b00 105 (field_Out.cs r z) :: lst 5 1 z (r.b.map (fun x => [B8 x])) ::  M) (fun z M =>  M) := by
  refine .of func55 rfl ntmps55 rfl fun w0 D0 G0 => ?_
  unfold field_Out_Wide at h
  refine .seq ?_
  refine .reg rfl ?_
  refine .opx (X.box (cs := (api_Wide.cs a1)) .t1 rfl) rfl fun b1 => ?_
  refine .nil ?_
  refine .then ?_
  refine .reg rfl ?_
  refine .opp (P.mov .t1) rfl ?_
  refine .op (V.ld (v := Ag (api_Wide.cs a1)) .t1 .k0 (.agg isAgg28 sizeOf28 rfl rfl)) rfl ?_
  obtain ⟨r2, hr3, h⟩ := bnd_eq h
  refine .opg (G.call call69 (.cons .t0 .nil) (S_blob_Wide a1 r2 hr3) .nil .nil (fun _ _ => rfl) (fun _ _ => rfl) rfl) rfl fun u4 _ => ?_
  refine .frz .k0 ?_
  obtain ⟨r5, hr6, h⟩ := bnd_eq h
  refine .opg (G.call call67 (.cons .t1 (.cons .t0 (.cons .k .nil))) (S_field_Out_put b00 a0 z00a u4 r2 0 r5 hr6) (.cons .k1 (.cons .k1 .nil)) (.cons Mm.m0 .nil) (fun _ _ => rfl) (fun _ _ => rfl) rfl) rfl fun u7 _ => ?_
  refine .drop .k0 ?_
  refine .nil ?_
  cases h
  exact .finwn u7 (.r0 rfl) trivial (Ls.of (.cons .k0 (.cons .k0 .nil))) .nil
attribute [irreducible] field_Out_Wide
noncomputable def deal_Payload (a0 : Int) (a1 : ByteArray) (a2 : api_Wide) : Option ((List UInt8)) :=
  thn (if (!(deal_in a0 1 2)) = true then true else (decide ((a1.size : Int) ≠ 32))) fun (y2 : Bool) => if y2 = true then (some ([] : List UInt8)) else (Option.bind (field_Out_Text field_New ⟨#[97, 99, 116]⟩) fun r9 => Option.bind (field_Out_Num r9 a0) fun r12 => Option.bind (field_Out_Text r12 a1) fun r15 => Option.bind (field_Out_Wide r15 a2) fun r18 => Option.bind (field_Out_Done r18) fun r21 => some r21.1)
set_option maxRecDepth 20000 in
set_option maxHeartbeats 1000000 in
theorem S_deal_Payload (a0 : Int) (a1 : ByteArray) (a2 : api_Wide) (r : (List UInt8)) (h : deal_Payload a0 a1 a2 = some r) :
    SpecF Try.prog 36 [N a0, .string a1, Ag (api_Wide.cs a2)] [] [] (fun z : Value => True) (fun z => z) (fun z M => lst 5 1 z (r.map (fun x => [B8 x])) ::  M) (fun z M =>  M) := by
  refine .of func36 rfl ntmps36 rfl fun w0 D0 G0 => ?_
  unfold deal_Payload at h
  refine .seq ?_
  refine .reg rfl ?_
  refine .opx (X.box (cs := (api_Wide.cs a2)) .t2 rfl) rfl fun b1 => ?_
  refine .op0 (OpP.toV (P.asg .k)) rfl ?_
  refine .nil ?_
  refine .then ?_
  refine .seq ?_
  obtain ⟨y2, hj4, h⟩ := thn_eq h
  refine .cutx (γ := Unit) (E1 := fun z3 => [(17, Bo y2), (5, pt b1 0), (0, N a0), (1, .string a1)]) (L1 := fun z3 => [blk b1 28 (api_Wide.cs a2)]) (R1 := fun z3 => []) ?_ (fun z3 => ?_)
  · clear h
    refine .reg rfl ?_
    refine .opp (P.mov .g1) rfl ?_
    refine .opg (G.call call52 (.cons .t0 (.cons .k (.cons .k .nil))) (S_deal_in a0 1 2 _ rfl) .nil .nil (fun _ _ => rfl) (fun _ _ => rfl) rfl) rfl fun _ _ => ?_
    refine .opp (P.not .t0) rfl ?_
    refine .opp (P.mov .t0) rfl ?_
    refine .split .k0 (fun c5 => ?_) (fun c5 => ?_)
    · rw [if_pos c5] at hj4
      refine .gno rfl .g0 rfl rfl ?_
      refine .gno rfl .g0 rfl rfl ?_
      refine .gno rfl .g0 rfl rfl ?_
      refine .opp (P.pickT .t0 .k) rfl ?_
      refine .nil ?_
      subst hj4
      exact .stj () (.cons Mm.m0 (.cons Mm.m1 (.cons Mm.m2 (.cons Mm.m3 .nil)))) (.of (.cons .k0 .nil)) .nil
    · rw [if_neg (ne_true_of_eq_false c5)] at hj4
      refine .gyes rfl .g0 ?_
      refine .opp (P.mov .g3) rfl ?_
      refine .gyes rfl .g1 ?_
      refine .opp (P.lens .t0 runUnderlying9) rfl ?_
      refine .gyes rfl .g1 ?_
      refine .opp (P.bin .t0 .k .neq) rfl ?_
      refine .opp (P.pickF .t1 .t0) rfl ?_
      refine .nil ?_
      subst hj4
      exact .stj () (.cons Mm.m0 (.cons Mm.m1 (.cons Mm.m2 (.cons Mm.m3 .nil)))) (.of (.cons .k0 .nil)) .nil
  · clear hj4
    refine .cond .t0 (fun c6 => ?_) (fun c6 => ?_)
    · rw [if_pos c6] at h
      refine .seq ?_
      refine .reg rfl ?_
      refine .opp (P.asg .k) rfl ?_
      refine .nil ?_
      refine .then ?_
      refine .ret ?_
      refine .thr ?_
      cases h
      refine .lnil 5 1 ?_
      exact .finw nilSl (.r1 rfl (.tmp .g0)) trivial (Ls.of (.cons .k0 .nil)) .nil
    · rw [if_neg (ne_true_of_eq_false c6)] at h
      refine .skip ?_
      refine .then ?_
      refine .seq ?_
      refine .reg rfl ?_
      refine .opg (G.call call44 .nil (S_field_New  _ rfl) .nil .nil (fun _ _ => rfl) (fun _ _ => rfl) rfl) rfl fun ⟨b7, u8⟩ _ => ?_
      refine .opp (P.asg .t0) rfl ?_
      refine .nil ?_
      refine .then ?_
      refine .seq ?_
      refine .reg rfl ?_
      refine .opp (P.mov .g0) rfl ?_
      obtain ⟨r9, hr10, h⟩ := bnd_eq h
      refine .opg (G.call call53 (.cons .t0 (.cons .k .nil)) (S_field_Out_Text b7 field_New u8 ⟨#[97, 99, 116]⟩ r9 hr10) (.cons .k0 (.cons .k0 .nil)) .nil (fun _ _ => rfl) (fun _ _ => rfl) rfl) rfl fun u11 _ => ?_
      refine .drop .k0 ?_
      refine .nil ?_
      refine .then ?_
      refine .seq ?_
      refine .reg rfl ?_
      refine .opp (P.mov .g0) rfl ?_
      refine .opp (P.mov .t3) rfl ?_
      obtain ⟨r12, hr13, h⟩ := bnd_eq h
      refine .opg (G.call call54 (.cons .t1 (.cons .t0 .nil)) (S_field_Out_Num b7 r9 u11 a0 r12 hr13) (.cons .k0 (.cons .k0 .nil)) .nil (fun _ _ => rfl) (fun _ _ => rfl) rfl) rfl fun u14 _ => ?_
      refine .drop .k0 ?_
      refine .nil ?_
      refine .then ?_
      refine .seq ?_
      refine .reg rfl ?_
      refine .opp (P.mov .g0) rfl ?_
      refine .opp (P.mov .t3) rfl ?_
      obtain ⟨r15, hr16, h⟩ := bnd_eq h
      refine .opg (G.call call53 (.cons .t1 (.cons .t0 .nil)) (S_field_Out_Text b7 r12 u14 a1 r15 hr16) (.cons .k0 (.cons .k0 .nil)) .nil (fun _ _ => rfl) (fun _ _ => rfl) rfl) rfl fun u17 _ => ?_
      refine .drop .k0 ?_
      refine .nil ?_
      refine .then ?_
      refine .seq ?_
      refine .reg rfl ?_
      refine .opp (P.mov .g0) rfl ?_
      refine .op (V.ld (v := Ag (api_Wide.cs a2)) .t2 .k2 (.agg isAgg28 sizeOf28 rfl rfl)) rfl ?_
      obtain ⟨r18, hr19, h⟩ := bnd_eq h
      refine .opg (G.call call55 (.cons .t1 (.cons .t0 .nil)) (S_field_Out_Wide b7 r15 u17 a2 r18 hr19) (.cons .k0 (.cons .k0 .nil)) .nil (fun _ _ => rfl) (fun _ _ => rfl) rfl) rfl fun u20 _ => ?_
      refine .drop .k0 ?_
      refine .nil ?_
      refine .then ?_
      refine .seq ?_
      refine .reg rfl ?_
      refine .opp (P.mov .t0) rfl ?_
      obtain ⟨r21, hr22, h⟩ := bnd_eq h
      refine .opg (G.call call46 (.cons .t0 .nil) (S_field_Out_Done b7 r18 u20 r21 hr22) (.cons .k0 (.cons .k0 .nil)) .nil (fun _ _ => rfl) (fun _ _ => rfl) rfl) rfl fun u23 _ => ?_
      refine .opp (P.mov .t0) rfl ?_
      refine .opp (P.ext (v := u23) .g0 rfl) rfl ?_
      refine .opp (P.ext (v := N r21.2) .t1 rfl) rfl ?_
      refine .opp (P.asg .t1) rfl ?_
      refine .op0 (OpP.toV (P.asg .t1)) rfl ?_
      refine .nil ?_
      refine .then ?_
      refine .seq ?_
      refine .reg rfl ?_
      refine .opp (P.mov .t0) rfl ?_
      refine .opp (P.asg .t0) rfl ?_
      refine .nil ?_
      refine .then ?_
      refine .ret ?_
      cases h
      exact .finw u23 (.r1 rfl (.tmp .g0)) trivial (Ls.of (.cons .k2 .nil)) .nil
attribute [irreducible] deal_Payload
noncomputable def mss_Leaf (a0 : ByteArray) : Option (Int) :=
  if (decide (a0 = ⟨#[]⟩)) = true then (some (-1)) else (Option.bind (bat a0 0) fun (x2 : UInt8) => some (x2.toNat : Int))
set_option maxRecDepth 20000 in
set_option maxHeartbeats 1000000 in
theorem S_mss_Leaf (a0 : ByteArray) (r : Int) (h : mss_Leaf a0 = some r) :
    SpecF Try.prog 48 [.string a0] [] [] (fun z : Unit => True) (fun z => N r) (fun z M =>  M) (fun z M =>  M) := by
  refine .of func48 rfl ntmps48 rfl fun w0 D0 G0 => ?_
  unfold mss_Leaf at h
  refine .seq ?_
  refine .reg rfl ?_
  refine .op0 (OpP.toV (P.asg .k)) rfl ?_
  refine .nil ?_
  refine .then ?_
  refine .seq ?_
  refine .seq ?_
  refine .reg rfl ?_
  refine .opp (P.mov .g0) rfl ?_
  refine .opp (P.bin .t0 .k .str_eql) rfl ?_
  refine .nil ?_
  refine .then ?_
  refine .cond .t0 (fun c1 => ?_) (fun c1 => ?_)
  · rw [if_pos c1] at h
    refine .seq ?_
    refine .reg rfl ?_
    refine .opp (P.asg .k) rfl ?_
    refine .nil ?_
    refine .then ?_
    refine .ret ?_
    refine .thr ?_
    cases h
    exact .finw () (.r1 rfl (.tmp .g0)) trivial (Ls.of .nil) .nil
  · rw [if_neg (ne_true_of_eq_false c1)] at h
    refine .skip ?_
    refine .then ?_
    refine .seq ?_
    refine .reg rfl ?_
    refine .opp (P.mov .t0) rfl ?_
    obtain ⟨x2, hx3, h⟩ := bnd_eq h
    obtain ⟨i4, hi5, hx3⟩ := bat_eq hx3
    refine .opp (P.idxs (i := i4) .t0 .k hi5 runUnderlying9 hx3) rfl ?_
    refine .opp (P.cnvIB8 (x := x2) .t0 runUnderlying5 runUnderlying3) rfl ?_
    refine .opp (P.asg .t0) rfl ?_
    refine .nil ?_
    refine .then ?_
    refine .ret ?_
    cases h
    exact .finw () (.r1 rfl (.tmp .g0)) trivial (Ls.of .nil) .nil
attribute [irreducible] mss_Leaf
noncomputable def blob_Cut (a0 : List UInt8) (a1 : Int) : Option ((List (List UInt8))) :=
  thn (if (decide (a1 < 1)) = true then (if 1 > (a0.length : Int) then 1 else (a0.length : Int)) else a1) fun (y1 : Int) => Option.bind (slices_Chunk_byte y1) fun r7 => Option.bind (loopW (fun (s17 : Int × (List (List UInt8))) => if (decide (s17.1 < (a0.length : Int))) = true then (grd (okS a0.length (some s17.1) none none) <| grd (okS a0.length (some s17.1) (some (IntKind.i64.wrap (s17.1 + (if ((slc a0 (s17.1).toNat a0.length).length : Int) < y1 then ((slc a0 (s17.1).toNat a0.length).length : Int) else y1)))) (some (IntKind.i64.wrap (s17.1 + (if ((slc a0 (s17.1).toNat a0.length).length : Int) < y1 then ((slc a0 (s17.1).toNat a0.length).length : Int) else y1))))) <| Option.bind (slices_Clone_byte (slc a0 (s17.1).toNat (IntKind.i64.wrap (s17.1 + (if ((slc a0 (s17.1).toNat a0.length).length : Int) < y1 then ((slc a0 (s17.1).toNat a0.length).length : Int) else y1))).toNat)) fun r39 => grd ((s17.2.length + ([r39] : List (List UInt8)).length) * 24 ≤ 140737488355328) <| some (.nx ((IntKind.i64.wrap (s17.1 + y1), (s17.2 ++ ([r39] : List (List UInt8))))))) else (some (.br (s17.1, s17.2)))) (0, [])) fun o19 => Lo.on o19 fun (s17 : Int × (List (List UInt8))) => some s17.2
set_option maxRecDepth 20000 in
set_option maxHeartbeats 1000000 in
theorem S_blob_Cut (v00 : Value) (a0 : List UInt8) (a1 : Int) (r : (List (List UInt8))) (h : blob_Cut a0 a1 = some r) :
    SpecF Try.prog 49 [v00, N a1] [] [rows 1 v00 (a0.map (fun x => [B8 x]))] (fun z : Value × List Value => True) (fun z => z.1) (fun z M => lst 40 1 z.1 (List.zipWith (fun (_ : List UInt8) z => [z]) r z.2) ::  M) (fun z M => gz (fun (x : List UInt8) z => rows 1 z (x.map (fun x => [B8 x]))) r z.2 ::  M) := by
  refine .of func49 rfl ntmps49 rfl fun w0 D0 G0 => ?_
  unfold blob_Cut at h
  refine .seq ?_
  refine .reg rfl ?_
  refine .op0 (OpP.toV (P.asg .k)) rfl ?_
  refine .nil ?_
  refine .then ?_
  obtain ⟨y1, hj3, h⟩ := thn_eq h
  refine .cutx (γ := Unit) (E1 := fun z2 => [(1, N y1), (0, v00)]) (L1 := fun z2 => []) (R1 := fun z2 => [rows 1 v00 (a0.map (fun x => [B8 x]))]) ?_ (fun z2 => ?_)
  · clear h
    refine .seq ?_
    refine .reg rfl ?_
    refine .opp (P.mov .g1) rfl ?_
    refine .opp (P.bin .t0 .k .lss) rfl ?_
    refine .nil ?_
    refine .then ?_
    refine .cond .t0 (fun c4 => ?_) (fun c4 => ?_)
    · rw [if_pos c4] at hj3
      refine .reg rfl ?_
      refine .opp (P.mov .g0) rfl ?_
      refine .op (V.lnr (n := a0.length) .t0 Mm.m0 map_len runUnderlying40) rfl ?_
      refine .opp (P.max2 .t0 .k) rfl ?_
      refine .drop .k2 ?_
      refine .opp (P.asg .t0) rfl ?_
      refine .nil ?_
      subst hj3
      exact .stj () (.cons Mm.m0 (.cons Mm.m1 .nil)) (.of .nil) (.cons Mm.m0 .nil)
    · rw [if_neg (ne_true_of_eq_false c4)] at hj3
      refine .skip ?_
      subst hj3
      exact .stj () (.cons Mm.m1 (.cons Mm.m0 .nil)) (.of .nil) (.cons Mm.m0 .nil)
  · clear hj3
    refine .seq ?_
    refine .reg rfl ?_
    refine .opx (X.alc (cs := [nilSl]) zeroValue94 rfl) rfl fun b5 => ?_
    refine .nil ?_
    refine .then ?_
    refine .seq ?_
    refine .seq ?_
    refine .reg rfl ?_
    refine .opp (P.mov .t2) rfl ?_
    refine .opp (P.mov .t2) rfl ?_
    refine .celr Mm.m0 fun hv6 => ?_
    obtain ⟨r7, hr8, h⟩ := bnd_eq h
    refine .opg (G.call call60 (.cons .t1 (.cons .t0 .nil)) (S_slices_Chunk_byte v00 hv6 y1 r7 hr8) .nil .nil (fun _ _ => rfl) (fun _ _ => rfl) rfl) rfl fun ⟨b9, b10⟩ _ => ?_
    refine .nil ?_
    refine .then ?_
    refine .block ?_
    refine .rangeF rfl .t0 call76 func76 rfl ntmps76 rfl fun a11 O12 D13 l14 ha15 hO16 => ?_
    refine .seq ?_
    refine .reg rfl ?_
    refine .opp (P.asg .k) rfl ?_
    refine .nil ?_
    refine .then ?_
    refine .block ?_
    refine .lnil 40 1 ?_
    refine .gzn (G := (fun (x : List UInt8) z => rows 1 z (x.map (fun x => [B8 x])))) ?_
    obtain ⟨o19, ho20, h⟩ := bnd_eq h
    refine .loopW (γ := Value × List Value) (fun (s17 : Int × (List (List UInt8))) z18 => [(4, N s17.1), (0, yv l14), (1, pt b9 0), (2, pt b10 0)]) (fun (s17 : Int × (List (List UInt8))) z18 => [blk b9 40 [v00], blk b10 3 [N y1], blk b5 94 [z18.1], lst 40 1 z18.1 (List.zipWith (fun (_ : List UInt8) z => [z]) s17.2 z18.2), obj l14 (O12 .ready none), obj D13 (.deferred (some []))]) (fun (s17 : Int × (List (List UInt8))) z18 => [rows 1 v00 (a0.map (fun x => [B8 x])), gz (fun (x : List UInt8) z => rows 1 z (x.map (fun x => [B8 x]))) s17.2 z18.2]) ⟨nilSl, []⟩ ho20 (.cons Mm.m0 (.cons Mm.m1 (.cons Mm.m2 (.cons Mm.m3 .nil)))) (.of (.cons .k3 (.cons .k3 (.cons .k3 (.cons .k0 (.cons .k0 (.cons .k0 .nil))))))) (.cons Mm.m1 (.cons Mm.m0 .nil)) (fun n25 s17 z18 hr23 => ?_)
    obtain ⟨ct24, hc21, hn22⟩ := loopK_at hr23
    refine .seq ?_
    refine .seq ?_
    refine .reg rfl ?_
    refine .opp (P.mov .g0) rfl ?_
    refine .op (V.ld (v := v00) .g3 .k0 (.one isAgg40 rfl)) rfl ?_
    refine .op (V.lnr (n := a0.length) .t0 Mm.m0 map_len runUnderlying40) rfl ?_
    refine .opp (P.bin .t1 .t0 .lss) rfl ?_
    refine .nil ?_
    refine .then ?_
    refine .cond .t0 (fun c26 => ?_) (fun c26 => ?_)
    · rw [if_pos c26] at hc21
      refine .skip ?_
      refine .then ?_
      refine .seq ?_
      refine .block ?_
      refine .seq ?_
      refine .draw 7 (.on 2 .pu (.on 0 .ld (.on 1 .ld (.on 3 .pu (.on 4 .ld (.on 5 .pu (.on 6 .go .nl))))))) follows_mixed (.thn (.inb (.thn (.thn (.inb .body))))) (by kernel_rfl) ?_
      refine .dpu rfl (.n rfl) (P.mov .g0) rfl rfl ?_
      refine .dld rfl (.n rfl) (V.ld (v := N y1) .g4 .k1 (.one isAgg3 rfl)) (fun _ h => h) rfl rfl ?_
      refine .dld rfl (.n rfl) (V.ld (v := v00) .g4 .k0 (.one isAgg40 rfl)) (fun _ h => h) rfl rfl ?_
      obtain ⟨hb27, hc21⟩ := grd_eq hc21
      refine .slnq Mm.m0 fun hq31 => ?_
      simp only [List.length_map] at hq31
      refine .dpu rfl (.n rfl) (P.slp (li := (some s17.1)) (hj := none) (mk := none) .t0 (.some .t1) .none .none hq31 runUnderlying40 sizeOf5 (by simpa using hb27)) rfl rfl ?_
      refine .slgen Mm.m0 (by simpa using hb27) fun u28 => ?_
      refine .rhead (q := rows 1 u28 ((slc a0 (s17.1).toNat a0.length).map (fun x => [B8 x]))) (fun _ hh => by simpa [slc_map] using hh) ?_
      refine .rfact Mm.m0 (fun _ r => rows_shape r) fun hs32 => ?_
      rw [List.length_map] at hs32
      refine .dld rfl (.n rfl) (OpP.toV (P.lnh (n := (slc a0 (s17.1).toNat a0.length).length) .t0 hs32 runUnderlying40)) (fun _ h => (h.imp (Ls.of (.cons .k0 (.cons .k0 (.cons .k0 (.cons .k0 (.cons .k0 (.cons .k0 .nil)))))))).ro (Rs.cons Mm.m1 (Rs.cons Mm.m2 Rs.nil))) rfl rfl ?_
      refine .dpu rfl (.n rfl) (P.min2 .t1 .t0) rfl rfl ?_
      refine .dgo rfl (.n rfl) (OpV.g (OpP.toV (P.asg .t0)) rfl) (.inr fun _ _ _ h => (h.imp (Ls.of (.cons .k0 (.cons .k0 (.cons .k0 (.cons .k0 (.cons .k0 (.cons .k0 .nil)))))))).ro (Rs.cons Mm.m1 (Rs.cons Mm.m2 Rs.nil))) fun _ _ => ?_
      refine .dnil ?_
      refine .then ?_
      refine .seq ?_
      refine .regY 10 rfl ?_
      refine .opp (P.mov .g2) rfl ?_
      refine .op (V.ld (v := v00) .g4 .k0 (.one isAgg40 rfl)) rfl ?_
      refine .opp (P.mov .g3) rfl ?_
      refine .opp (P.mov .g4) rfl ?_
      refine .opp (P.mov .g4) rfl ?_
      refine .opp (P.bin .t1 .t0 .add) rfl ?_
      refine .opp (P.mov .g5) rfl ?_
      refine .opp (P.mov .t5) rfl ?_
      refine .opp (P.bin .t1 .t0 .add) rfl ?_
      obtain ⟨hb33, hc21⟩ := grd_eq hc21
      refine .capq Mm.m1 fun hc35 => ?_
      refine .opg (G.slr (li := (some s17.1)) (hj := (some (IntKind.i64.wrap (s17.1 + (if ((slc a0 (s17.1).toNat a0.length).length : Int) < y1 then ((slc a0 (s17.1).toNat a0.length).length : Int) else y1))))) (mk := (some (IntKind.i64.wrap (s17.1 + (if ((slc a0 (s17.1).toNat a0.length).length : Int) < y1 then ((slc a0 (s17.1).toNat a0.length).length : Int) else y1))))) .t3 (.some .t2) (.some .t1) (.some .t0) Mm.m1 hc35 runUnderlying40 sizeOf5 (by simpa using hb33) rfl) rfl fun u34 hu36 => ?_
      refine .rhead (q := rows 1 u34 ((slc a0 (s17.1).toNat (IntKind.i64.wrap (s17.1 + (if ((slc a0 (s17.1).toNat a0.length).length : Int) < y1 then ((slc a0 (s17.1).toNat a0.length).length : Int) else y1))).toNat).map (fun x => [B8 x]))) (fun _ hh => by simpa [slc_map] using hh) ?_
      refine .nil ?_
      refine .then ?_
      refine .yield (ps := [15]) .t1 (.cons .t0 .nil) hO16 .k4 rfl rfl (by decide) fun a37 ha38 => ?_
      refine .reg rfl ?_
      refine .opp (P.asg .t0) rfl ?_
      refine .nil ?_
      refine .then ?_
      refine .bg rfl hO16 .k0 ?_
      refine .block ?_
      obtain ⟨r39, hr40, hc21⟩ := bnd_eq hc21
      obtain ⟨hb47, hc21⟩ := grd_eq hc21
      refine .dcut (γ := Value × Value × Value) (φ := fun _ => True) (E1 := fun x_ => []) (L1 := fun x_ => [blk b5 94 [x_.2.2], lst 40 1 x_.2.2 (List.zipWith (fun (_ : List UInt8) z => [z]) (s17.2 ++ ([r39] : List (List UInt8))) (z18.2 ++ [x_.1])), lst 40 1 x_.2.1 [[x_.1]], obj l14 (O12 .busy none), blk b9 40 [v00], blk b10 3 [N y1], obj D13 (.deferred (some []))]) (R1 := fun x_ => [gz (fun (x : List UInt8) z => rows 1 z (x.map (fun x => [B8 x]))) (s17.2 ++ [r39]) (z18.2 ++ [x_.1]), gz (fun (x : List UInt8) z => rows 1 z (x.map (fun x => [B8 x]))) ([r39]) ([x_.1]), rows 1 x_.1 (r39.map (fun x => [B8 x])), rows 1 u34 ((slc a0 (s17.1).toNat (IntKind.i64.wrap (s17.1 + (if ((slc a0 (s17.1).toNat a0.length).length : Int) < y1 then ((slc a0 (s17.1).toNat a0.length).length : Int) else y1))).toNat).map (fun x => [B8 x])), rows 1 u28 ((slc a0 (s17.1).toNat a0.length).map (fun x => [B8 x])), rows 1 v00 (a0.map (fun x => [B8 x])), gz (fun (x : List UInt8) z => rows 1 z (x.map (fun x => [B8 x]))) s17.2 z18.2]) ?_ (fun x_ _ => ?_)
      · refine .draw 2 (.on 1 .pu (.fk 0 2 (.on 2 .go (.on 3 .go (.on 4 .go (.on 5 .go .nl)))) (.fk 0 3 (.on 3 .go (.on 4 .go (.on 5 .go .nl))) (.on 0 .go (.on 4 .go (.on 5 .go .nl)))))) follows_mixed (.thn (.inb .rnd)) (by kernel_rfl) ?_
        refine .dpu rfl (.n rfl) (P.mov .t0) rfl rfl ?_
        refine .dfk ?_ ?_
        · refine .dgo rfl (.n rfl) (OpV.g (V.ld (v := z18.1) .g1 .k3 (.one isAgg94 rfl)) rfl) (.inr fun _ _ _ h => h) fun _ _ => ?_
          refine .dgo rfl (.n rfl) (G.call call61 (.cons .t1 .nil) (S_slices_Clone_byte u34 (slc a0 (s17.1).toNat (IntKind.i64.wrap (s17.1 + (if ((slc a0 (s17.1).toNat a0.length).length : Int) < y1 then ((slc a0 (s17.1).toNat a0.length).length : Int) else y1))).toNat) r39 hr40) .nil (.cons Mm.m0 .nil) (fun _ _ => rfl) (fun _ _ => rfl) rfl) (.inl rfl) fun u41 _ => ?_
          refine .onel .k0 fun ho43 => ?_
          refine .dgo rfl (.n rfl) (G.bsl (cs := [u41]) .t0 runUnderlying94 sizeOf40 zeroValue40 (cells1 ho43) rfl rfl rfl rfl) (.inl rfl) fun u42 _ => ?_
          refine .gzl Mm.m3 fun hz45 => ?_
          refine .frz .k1 ?_
          refine .gzn (G := (fun (x : List UInt8) z => rows 1 z (x.map (fun x => [B8 x])))) ?_
          refine .gzc (x := r39) (z := u41) Mm.m0 rfl ?_
          refine .gzo (D := (fun (_ : List UInt8) z => [z])) Mm.m0 (fun _ _ _ h => rows_one h) (fun _ _ h => onez h) fun ho46 => ?_
          refine .gza Mm.m5 Mm.m0 ?_
          refine .dgo rfl (.n rfl) (G.app (by_ := 24) .t1 .t0 .k5 (.inr (.inr ⟨_, Mm.m0⟩)) runUnderlying94 runUnderlying94 sizeOf40 typeInfo40 rfl rfl zeroValue40 rfl ho46 (by simpa [zip_len hz45] using hb47) rfl) (.inl rfl) fun u44 _ => ?_
          refine .conseq .k0 (q := lst 40 1 u44 (List.zipWith (fun (_ : List UInt8) z => [z]) (s17.2 ++ ([r39] : List (List UInt8))) (z18.2 ++ [u41]))) (fun _ hh => by simpa [zip_app hz45] using hh) ?_
          refine .onel .k0 fun ho48 => ?_
          refine .dgo rfl (.n rfl) (G.str .t0 .t0 .k5 (.mk1 (cs' := [u44]) sizeOf94 rfl ho48 rfl rfl)) (.inl rfl) fun _ _ => ?_
          refine .dnil ?_
          exact .dst ⟨u41, u42, u44⟩ trivial .nil (Ls.of (.cons .k0 (.cons .k0 (.cons .k0 (.cons .k0 (.cons .k0 (.cons .k0 (.cons .k0 .nil)))))))) (.cons Mm.m0 (.cons Mm.m1 (.cons Mm.m2 (.cons Mm.m3 (.cons Mm.m4 (.cons Mm.m5 (.cons Mm.m6 .nil)))))))
        · refine .dgo rfl (.n rfl) (G.call call61 (.cons .t0 .nil) (S_slices_Clone_byte u34 (slc a0 (s17.1).toNat (IntKind.i64.wrap (s17.1 + (if ((slc a0 (s17.1).toNat a0.length).length : Int) < y1 then ((slc a0 (s17.1).toNat a0.length).length : Int) else y1))).toNat) r39 hr40) .nil (.cons Mm.m0 .nil) (fun _ _ => rfl) (fun _ _ => rfl) rfl) (.inl rfl) fun u41 _ => ?_
          refine .dfk ?_ ?_
          · refine .dgo rfl (.n rfl) (OpV.g (V.ld (v := z18.1) .g1 .k4 (.one isAgg94 rfl)) rfl) (.inl rfl) fun _ _ => ?_
            refine .onel .k0 fun ho43 => ?_
            refine .dgo rfl (.n rfl) (G.bsl (cs := [u41]) .t1 runUnderlying94 sizeOf40 zeroValue40 (cells1 ho43) rfl rfl rfl rfl) (.inl rfl) fun u42 _ => ?_
            refine .gzl Mm.m3 fun hz45 => ?_
            refine .frz .k1 ?_
            refine .gzn (G := (fun (x : List UInt8) z => rows 1 z (x.map (fun x => [B8 x])))) ?_
            refine .gzc (x := r39) (z := u41) Mm.m0 rfl ?_
            refine .gzo (D := (fun (_ : List UInt8) z => [z])) Mm.m0 (fun _ _ _ h => rows_one h) (fun _ _ h => onez h) fun ho46 => ?_
            refine .gza Mm.m5 Mm.m0 ?_
            refine .dgo rfl (.n rfl) (G.app (by_ := 24) .t1 .t0 .k5 (.inr (.inr ⟨_, Mm.m0⟩)) runUnderlying94 runUnderlying94 sizeOf40 typeInfo40 rfl rfl zeroValue40 rfl ho46 (by simpa [zip_len hz45] using hb47) rfl) (.inl rfl) fun u44 _ => ?_
            refine .conseq .k0 (q := lst 40 1 u44 (List.zipWith (fun (_ : List UInt8) z => [z]) (s17.2 ++ ([r39] : List (List UInt8))) (z18.2 ++ [u41]))) (fun _ hh => by simpa [zip_app hz45] using hh) ?_
            refine .onel .k0 fun ho48 => ?_
            refine .dgo rfl (.n rfl) (G.str .t0 .t0 .k5 (.mk1 (cs' := [u44]) sizeOf94 rfl ho48 rfl rfl)) (.inl rfl) fun _ _ => ?_
            refine .dnil ?_
            exact .dst ⟨u41, u42, u44⟩ trivial .nil (Ls.of (.cons .k0 (.cons .k0 (.cons .k0 (.cons .k0 (.cons .k0 (.cons .k0 (.cons .k0 .nil)))))))) (.cons Mm.m0 (.cons Mm.m1 (.cons Mm.m2 (.cons Mm.m3 (.cons Mm.m4 (.cons Mm.m5 (.cons Mm.m6 .nil)))))))
          · refine .onel .k0 fun ho43 => ?_
            refine .dgo rfl (.n rfl) (G.bsl (cs := [u41]) .t0 runUnderlying94 sizeOf40 zeroValue40 (cells1 ho43) rfl rfl rfl rfl) (.inl rfl) fun u42 _ => ?_
            refine .dgo rfl (.n rfl) (OpV.g (V.ld (v := z18.1) .g1 .k5 (.one isAgg94 rfl)) rfl) (.inl rfl) fun _ _ => ?_
            refine .gzl Mm.m3 fun hz45 => ?_
            refine .frz .k1 ?_
            refine .gzn (G := (fun (x : List UInt8) z => rows 1 z (x.map (fun x => [B8 x])))) ?_
            refine .gzc (x := r39) (z := u41) Mm.m0 rfl ?_
            refine .gzo (D := (fun (_ : List UInt8) z => [z])) Mm.m0 (fun _ _ _ h => rows_one h) (fun _ _ h => onez h) fun ho46 => ?_
            refine .gza Mm.m5 Mm.m0 ?_
            refine .dgo rfl (.n rfl) (G.app (by_ := 24) .t0 .t0 .k5 (.inr (.inr ⟨_, Mm.m0⟩)) runUnderlying94 runUnderlying94 sizeOf40 typeInfo40 rfl rfl zeroValue40 rfl ho46 (by simpa [zip_len hz45] using hb47) rfl) (.inl rfl) fun u44 _ => ?_
            refine .conseq .k0 (q := lst 40 1 u44 (List.zipWith (fun (_ : List UInt8) z => [z]) (s17.2 ++ ([r39] : List (List UInt8))) (z18.2 ++ [u41]))) (fun _ hh => by simpa [zip_app hz45] using hh) ?_
            refine .onel .k0 fun ho48 => ?_
            refine .dgo rfl (.n rfl) (G.str .t0 .t0 .k5 (.mk1 (cs' := [u44]) sizeOf94 rfl ho48 rfl rfl)) (.inl rfl) fun _ _ => ?_
            refine .dnil ?_
            exact .dst ⟨u41, u42, u44⟩ trivial .nil (Ls.of (.cons .k0 (.cons .k0 (.cons .k0 (.cons .k0 (.cons .k0 (.cons .k0 (.cons .k0 .nil)))))))) (.cons Mm.m0 (.cons Mm.m1 (.cons Mm.m2 (.cons Mm.m3 (.cons Mm.m4 (.cons Mm.m5 (.cons Mm.m6 .nil)))))))
      · obtain ⟨u41, u42, u44⟩ := x_
        refine .inn ?_
        refine .rnorm rfl ⟨rfl, rfl, rfl⟩ ha38 hO16 .k3 rfl ?_
        refine .inL rfl ?_
        refine .opp (P.not .t0) rfl ?_
        refine .nil ?_
        refine .then ?_
        refine .condF .t0 ?_
        refine .skip ?_
        refine .inn ?_
        refine .then ?_
        refine .reg rfl ?_
        refine .opp (P.mov .g0) rfl ?_
        refine .op (V.ld (v := N y1) .g4 .k5 (.one isAgg3 rfl)) rfl ?_
        refine .opp (P.bin .t1 .t0 .add) rfl ?_
        refine .drop .k1 ?_
        refine .opp (P.asg .t0) rfl ?_
        refine .nil ?_
        cases hc21
        obtain ⟨m49, hm50, hn22⟩ := hn22
        exact .rdW ((IntKind.i64.wrap (s17.1 + y1), (s17.2 ++ ([r39] : List (List UInt8))))) ⟨u44, (z18.2 ++ [u41])⟩ hm50 hn22 (.cons Mm.m0 (.cons Mm.m1 (.cons Mm.m2 (.cons Mm.m3 .nil)))) (.of (.cons .k4 (.cons .k4 (.cons .k1 (.cons .k1 (.cons .k0 (.cons .k1 .nil))))))) (.cons Mm.m5 (.cons Mm.m0 .nil))
    · rw [if_neg (ne_true_of_eq_false c26)] at hc21
      refine .exit ?_
      refine .thx ?_
      cases hc21
      refine .told (γ := Value × List Value) h hn22 (fun (s17 : Int × (List (List UInt8))) z18 => [(4, N s17.1), (0, yv l14), (1, pt b9 0), (2, pt b10 0)]) (fun (s17 : Int × (List (List UInt8))) z18 => [blk b9 40 [v00], blk b10 3 [N y1], blk b5 94 [z18.1], lst 40 1 z18.1 (List.zipWith (fun (_ : List UInt8) z => [z]) s17.2 z18.2), obj l14 (O12 .ready none), obj D13 (.deferred (some []))]) (fun (s17 : Int × (List (List UInt8))) z18 => [rows 1 v00 (a0.map (fun x => [B8 x])), gz (fun (x : List UInt8) z => rows 1 z (x.map (fun x => [B8 x]))) s17.2 z18.2]) ⟨z18.1, z18.2⟩ (.cons Mm.m0 (.cons Mm.m1 (.cons Mm.m2 (.cons Mm.m3 .nil)))) (.of (.cons .k0 (.cons .k0 (.cons .k0 (.cons .k0 (.cons .k0 (.cons .k0 .nil))))))) (.cons Mm.m0 (.cons Mm.m1 .nil)) (fun s17 z18 h' => ?_)
      replace h := h'
      refine .thx ?_
      refine .inb ?_
      refine .rfinn ha15 hO16 .k4 rfl ?_
      refine .inn ?_
      refine .then ?_
      refine .seq ?_
      refine .reg rfl ?_
      refine .op (V.ld (v := z18.1) .t0 .k2 (.one isAgg94 rfl)) rfl ?_
      refine .opp (P.asg .t0) rfl ?_
      refine .nil ?_
      refine .then ?_
      refine .ret ?_
      cases h
      exact .finm ⟨z18.1, z18.2⟩ .k4 (.r1 rfl (.tmp .g0)) trivial (Ls.of (.cons .k3 .nil)) (.cons Mm.m1 .nil)
attribute [irreducible] blob_Cut
noncomputable def ots_Open_1 (a0 : ByteArray) : Bool :=
  decide ((a0.size : Int) ≠ 8)
set_option maxRecDepth 20000 in
set_option maxHeartbeats 1000000 in
theorem S_ots_Open_1 (a0 : ByteArray) (r : Bool) (h : ots_Open_1 a0 = r) :
    SpecF Try.prog 64 [.string a0] [] [] (fun z : Unit => True) (fun z => Bo r) (fun z M =>  M) (fun z M =>  M) := by
  refine .of func64 rfl ntmps64 rfl fun w0 D0 G0 => ?_
  unfold ots_Open_1 at h
  refine .seq ?_
  refine .reg rfl ?_
  refine .op0 (OpP.toV (P.asg .k)) rfl ?_
  refine .nil ?_
  refine .then ?_
  refine .seq ?_
  refine .reg rfl ?_
  refine .opp (P.mov .t0) rfl ?_
  refine .opp (P.lens .t0 runUnderlying9) rfl ?_
  refine .opp (P.bin .t0 .k .neq) rfl ?_
  refine .opp (P.asg .t0) rfl ?_
  refine .nil ?_
  refine .then ?_
  refine .ret ?_
  subst h
  exact .finw () (.r1 rfl (.tmp .g0)) trivial (Ls.of .nil) .nil
attribute [irreducible] ots_Open_1
noncomputable def slices_IndexFunc_string_ots_Open_1 (a0 : List ByteArray) : Option (Int) :=
  Option.bind (loopR (fun (i1 : Nat) (e4 : ByteArray) (s2 : Unit) => if (ots_Open_1 e4) = true then (Option.map Ct.rt (some (i1 : Int))) else (some (.nx ()))) 0 a0 ()) fun o5 => Lo.on o5 fun (s2 : Unit) => some (-1)
set_option maxRecDepth 20000 in
set_option maxHeartbeats 1000000 in
theorem S_slices_IndexFunc_string_ots_Open_1 (v00 : Value) (a0 : List ByteArray) (r : Int) (h : slices_IndexFunc_string_ots_Open_1 a0 = some r) :
    SpecF Try.prog 78 [v00, fnv 64 []] [] [rows 1 v00 (a0.map (fun x => [.string x]))] (fun z : Unit => True) (fun z => N r) (fun z M =>  M) (fun z M =>  M) := by
  refine .of func78 rfl ntmps78 rfl fun w0 D0 G0 => ?_
  unfold slices_IndexFunc_string_ots_Open_1 at h
  refine .seq ?_
  refine .reg rfl ?_
  refine .op0 (OpP.toV (P.asg .k)) rfl ?_
  refine .nil ?_
  refine .then ?_
  refine .seq ?_
  refine .seq ?_
  refine .reg rfl ?_
  refine .opp (P.mov .g0) rfl ?_
  refine .op (V.lnr (n := a0.length) .t0 Mm.m0 map_len runUnderlying47) rfl ?_
  refine .opp (P.mov .k) rfl ?_
  refine .nil ?_
  refine .then ?_
  refine .block ?_
  obtain ⟨o5, ho6, h⟩ := bnd_eq h
  refine .lenq Mm.m0 fun hl12 => ?_
  rw [map_len] at hl12
  refine .loopR (γ := Unit) (fun i1 (s2 : Unit) z3 => [(8, N (i1 : Int)), (7, N (a0.length : Int)), (0, v00), (1, fnv 64 [])]) (fun (s2 : Unit) z3 => []) (fun (s2 : Unit) z3 => [rows 1 v00 (a0.map (fun x => [.string x]))]) () ho6 (.cons Mm.m0 (.cons Mm.m1 (.cons Mm.m2 (.cons Mm.m3 .nil)))) (.of .nil) (.cons Mm.m0 .nil) (fun i1 s2 z3 hi13 hr9 => ?_)
  refine .seq ?_
  refine .reg rfl ?_
  refine .opp (P.bin (v := Bo (decide ((i1 : Int) < (a0.length : Nat)))) .g0 .g1 .lss) rfl ?_
  refine .nil ?_
  refine .then ?_
  refine .seq ?_
  refine .cond .t0 (fun c14 => ?_) (fun c14 => ?_)
  · obtain ⟨e4, hx11⟩ := get_of c14
    obtain ⟨ct10, hc7, hn8⟩ := loopR_at hx11 hr9
    refine .skip ?_
    refine .then ?_
    refine .seq ?_
    refine .block ?_
    refine .seq ?_
    refine .reg rfl ?_
    refine .opp (P.mov .g0) rfl ?_
    refine .opp (P.asg .t0) rfl ?_
    refine .nil ?_
    refine .then ?_
    refine .seq ?_
    refine .reg rfl ?_
    refine .opp (P.mov .g4) rfl ?_
    refine .opp (P.mov .g4) rfl ?_
    refine .opp (P.mov .g2) rfl ?_
    refine .ixq Mm.m0 (map_get hx11) fun p15 q16 hq17 => ?_
    refine .opp (P.ixi (i := i1) .t0 rfl .t0 hq17 runUnderlying47 sizeOf9) rfl ?_
    refine .op (V.ldx0 (u := .string e4) .t0 hq17 Mm.m0 (map_get hx11) (.one isAgg9 rfl)) rfl ?_
    refine .opg (G.callv call64 .t1 (.cons .t0 .nil) (S_ots_Open_1 e4 _ rfl) .nil .nil (fun _ _ => rfl) (fun _ _ => rfl) rfl) rfl fun _ _ => ?_
    refine .nil ?_
    refine .then ?_
    refine .cond .t0 (fun c18 => ?_) (fun c18 => ?_)
    · rw [if_pos c18] at hc7
      refine .seq ?_
      refine .reg rfl ?_
      refine .opp (P.mov .t0) rfl ?_
      refine .opp (P.asg .t0) rfl ?_
      refine .nil ?_
      refine .then ?_
      refine .ret ?_
      refine .inr ?_
      refine .thr ?_
      obtain ⟨x19, hx20, rfl⟩ := map_rt hc7
      obtain rfl := hn8
      obtain rfl := rt_on h
      refine .thr ?_
      refine .inr ?_
      refine .thr ?_
      cases hx20
      exact .finw () (.r1 rfl (.tmp .g0)) trivial (Ls.of .nil) .nil
    · rw [if_neg (ne_true_of_eq_false c18)] at hc7
      refine .skip ?_
      refine .inn ?_
      refine .then ?_
      refine .reg rfl ?_
      refine .opp (P.bin .g1 .k (.addc (inc_ok (lt_of_get hx11) hl12))) rfl ?_
      refine .drop .k2 ?_
      refine .opp (P.mov .t0) rfl ?_
      refine .nil ?_
      cases hc7
      exact .rdR () () hn8 (lt_of_get hx11) (.cons Mm.m0 (.cons Mm.m2 (.cons Mm.m3 (.cons Mm.m4 .nil)))) (.of .nil) (.cons Mm.m0 .nil)
  · obtain rfl := loopR_end (le_of_not c14) hr9
    have h := dn_on h
    refine .exit ?_
    refine .thx ?_
    refine .thx ?_
    refine .inb ?_
    refine .then ?_
    refine .seq ?_
    refine .reg rfl ?_
    refine .opp (P.asg .k) rfl ?_
    refine .nil ?_
    refine .then ?_
    refine .ret ?_
    cases h
    exact .finw () (.r1 rfl (.tmp .g0)) trivial (Ls.of .nil) .nil
attribute [irreducible] slices_IndexFunc_string_ots_Open_1
noncomputable def slices_ContainsFunc_string_ots_Open_1 (a0 : List ByteArray) : Option (Bool) :=
  Option.bind (slices_IndexFunc_string_ots_Open_1 a0) fun r1 => some (decide (r1 ≥ 0))
set_option maxRecDepth 20000 in
set_option maxHeartbeats 1000000 in
theorem S_slices_ContainsFunc_string_ots_Open_1 (v00 : Value) (a0 : List ByteArray) (r : Bool) (h : slices_ContainsFunc_string_ots_Open_1 a0 = some r) :
    SpecF Try.prog 63 [v00, fnv 64 []] [] [rows 1 v00 (a0.map (fun x => [.string x]))] (fun z : Unit => True) (fun z => Bo r) (fun z M =>  M) (fun z M =>  M) := by
  refine .of func63 rfl ntmps63 rfl fun w0 D0 G0 => ?_
  unfold slices_ContainsFunc_string_ots_Open_1 at h
  refine .seq ?_
  refine .reg rfl ?_
  refine .op0 (OpP.toV (P.asg .k)) rfl ?_
  refine .nil ?_
  refine .then ?_
  refine .seq ?_
  refine .reg rfl ?_
  refine .opp (P.mov .t0) rfl ?_
  refine .opp (P.mov .t1) rfl ?_
  obtain ⟨r1, hr2, h⟩ := bnd_eq h
  refine .opg (G.call call78 (.cons .t1 (.cons .t0 .nil)) (S_slices_IndexFunc_string_ots_Open_1 v00 a0 r1 hr2) .nil (.cons Mm.m0 .nil) (fun _ _ => rfl) (fun _ _ => rfl) rfl) rfl fun _ _ => ?_
  refine .opp (P.bin .t0 .k .geq) rfl ?_
  refine .opp (P.asg .t0) rfl ?_
  refine .nil ?_
  refine .then ?_
  refine .ret ?_
  cases h
  exact .finw () (.r1 rfl (.tmp .g0)) trivial (Ls.of .nil) .nil
attribute [irreducible] slices_ContainsFunc_string_ots_Open_1
noncomputable def slices_Backward_int  : Unit :=
  ()
set_option maxRecDepth 20000 in
set_option maxHeartbeats 1000000 in
theorem S_slices_Backward_int (v00 : Value) (hv00 : IsSl v00) (r : Unit) (h : slices_Backward_int  = r) :
    SpecF Try.prog 86 [v00] [] [] (fun z : Nat => True) (fun z => fnv 90 [pt z 0]) (fun z M => blk z 74 [v00] ::  M) (fun z M =>  M) := by
  refine .of func86 rfl ntmps86 rfl fun w0 D0 G0 => ?_
  unfold slices_Backward_int at h
  refine .seq ?_
  refine .reg rfl ?_
  refine .opx (X.box (cs := [v00]) .t0 hv00.cells) rfl fun b1 => ?_
  refine .op0 (OpP.toV (P.asg .k)) rfl ?_
  refine .nil ?_
  refine .then ?_
  refine .seq ?_
  refine .reg rfl ?_
  refine .opp (P.mkf (.cons .t0 .nil)) rfl ?_
  refine .opp (P.asg .t0) rfl ?_
  refine .nil ?_
  refine .then ?_
  refine .ret ?_
  subst h
  exact .finw b1 (.r1 rfl (.tmp .g0)) trivial (Ls.of (.cons .k0 .nil)) .nil
attribute [irreducible] slices_Backward_int
noncomputable def ots_spread (a0 : Int) (a1 : Int) : Option ((List Int)) :=
  grd (0 ≤ a1 ∧ a1 * 8 ≤ 140737488355328) <| Option.bind (loopW (fun (s14 : Int × (List Int) × (List Int) × Int) => if (decide (s14.1 ≥ 0)) = true then (Option.bind (at_ s14.2.1 s14.1) fun (x27 : Int) => Option.bind (at_ s14.2.1 s14.1) fun (x36 : Int) => some (.nx ((IntKind.i64.wrap (s14.1 - 1), (s14.2.1.set (s14.1).toNat (bandK .i64 s14.2.2.2 3 : Int)), (s14.2.1.set (s14.1).toNat (bandK .i64 s14.2.2.2 3 : Int)), shrK .i64 s14.2.2.2 2)))) else (some (.br (s14.1, s14.2.1, s14.2.1, s14.2.2.2)))) ((IntKind.i64.wrap (((List.replicate (a1).toNat (0 : Int)).length : Int) - 1), (List.replicate (a1).toNat (0 : Int)), (List.replicate (a1).toNat (0 : Int)), a0))) fun o16 => Lo.on o16 fun (s14 : Int × (List Int) × (List Int) × Int) => some s14.2.1
set_option maxRecDepth 20000 in
set_option maxHeartbeats 1000000 in
theorem S_ots_spread (a0 : Int) (a1 : Int) (r : (List Int)) (h : ots_spread a0 a1 = some r) :
    SpecF Try.prog 80 [N a0, N a1] [] [] (fun z : Value => True) (fun z => z) (fun z M => lst 3 1 z (r.map (fun x => [N x])) ::  M) (fun z M =>  M) := by
  refine .of func80 rfl ntmps80 rfl fun w0 D0 G0 => ?_
  unfold ots_spread at h
  refine .seq ?_
  refine .reg rfl ?_
  refine .opx (X.box (cs := [N a0]) .t0 rfl) rfl fun b1 => ?_
  refine .op0 (OpP.toV (P.asg .k)) rfl ?_
  refine .nil ?_
  refine .then ?_
  refine .seq ?_
  refine .reg rfl ?_
  refine .opp (P.mov .t1) rfl ?_
  obtain ⟨hb3, h⟩ := grd_eq h
  refine .opg (G.mks (by_ := 8) (cs := [N 0]) .g0 .t0 runUnderlying74 sizeOf3 typeInfo3 rfl zeroValue3 rfl rfl rfl rfl hb3.1 hb3.2 rfl) rfl fun u2 _ => ?_
  refine .conseq .k0 (q := lst 3 1 u2 ((List.replicate (a1).toNat (0 : Int)).map (fun x => [N x]))) (fun _ hh => by simpa [List.map_replicate] using hh) ?_
  refine .opx (X.alc (cs := [nilSl]) zeroValue74 rfl) rfl fun b4 => ?_
  refine .onel .k1 fun ho5 => ?_
  refine .opg (G.str .t1 .g0 .k0 (.mk1 (cs' := [u2]) sizeOf74 rfl ho5 rfl rfl)) rfl fun _ _ => ?_
  refine .nil ?_
  refine .then ?_
  refine .seq ?_
  refine .seq ?_
  refine .reg rfl ?_
  refine .op (V.ld (v := u2) .g0 .k0 (.one isAgg74 rfl)) rfl ?_
  refine .cell .k1 fun hv6 => ?_
  refine .opg (G.call call86 (.cons .t0 .nil) (S_slices_Backward_int u2 hv6 _ rfl) .nil .nil (fun _ _ => rfl) (fun _ _ => rfl) rfl) rfl fun b7 _ => ?_
  refine .nil ?_
  refine .then ?_
  refine .block ?_
  refine .rangeF rfl .t0 call90 func90 rfl ntmps90 rfl fun a8 O9 D10 l11 ha12 hO13 => ?_
  refine .seq ?_
  refine .reg rfl ?_
  refine .op (V.ld (v := u2) .g1 .k2 (.one isAgg74 rfl)) rfl ?_
  refine .op (V.lnl (n := (List.replicate (a1).toNat (0 : Int)).length) .t0 .k4 map_len runUnderlying74) rfl ?_
  refine .opp (P.bin .t0 .k .sub) rfl ?_
  refine .opp (P.asg .t0) rfl ?_
  refine .nil ?_
  refine .then ?_
  refine .block ?_
  obtain ⟨o16, ho17, h⟩ := bnd_eq h
  refine .loopW (γ := Unit) (fun (s14 : Int × (List Int) × (List Int) × Int) z15 => [(3, N s14.1), (0, yv l11), (1, pt b7 0)]) (fun (s14 : Int × (List Int) × (List Int) × Int) z15 => [blk b7 74 [u2], blk b4 74 [u2], blk b1 3 [N s14.2.2.2], lst 3 1 u2 (s14.2.1.map (fun x => [N x])), obj l11 (O9 .ready none), obj D10 (.deferred (some []))]) (fun (s14 : Int × (List Int) × (List Int) × Int) z15 => []) () ho17 (.cons Mm.m0 (.cons Mm.m1 (.cons Mm.m2 .nil))) (.of (.cons .k2 (.cons .k2 (.cons .k3 (.cons .k2 (.cons .k0 (.cons .k0 .nil))))))) .nil (fun n22 s14 z15 hr20 => ?_)
  obtain ⟨ct21, hc18, hn19⟩ := loopK_at hr20
  refine .seq ?_
  refine .seq ?_
  refine .reg rfl ?_
  refine .opp (P.mov .g0) rfl ?_
  refine .opp (P.bin .t0 .k .geq) rfl ?_
  refine .nil ?_
  refine .then ?_
  refine .cond .t0 (fun c23 => ?_) (fun c23 => ?_)
  · rw [if_pos c23] at hc18
    refine .skip ?_
    refine .then ?_
    refine .seq ?_
    refine .block ?_
    refine .seq ?_
    refine .regY 6 rfl ?_
    refine .opp (P.mov .g1) rfl ?_
    refine .opp (P.mov .g1) rfl ?_
    refine .op (V.ld (v := u2) .g4 .k0 (.one isAgg74 rfl)) rfl ?_
    refine .opp (P.mov .g3) rfl ?_
    obtain ⟨x27, hx28, hc18⟩ := bnd_eq hc18
    obtain ⟨i29, hi30, hx28⟩ := at_eq hx28
    have hi30_ : (s14.1).toNat = i29 := by rw [hi30]; rfl
    refine .ixql .k3 (map_get hx28) fun p24 q25 hq26 => ?_
    refine .opp (P.ixi (i := i29) .t0 hi30 .t0 hq26 runUnderlying74 sizeOf3) rfl ?_
    refine .op (V.ldxl0 (u := N x27) .t0 hq26 .k3 (map_get hx28) (.one isAgg3 rfl)) rfl ?_
    refine .nil ?_
    refine .then ?_
    refine .yield (ps := [11, 12]) .t2 (.cons .t1 (.cons .t0 .nil)) hO13 .k4 rfl rfl (by decide) fun a31 ha32 => ?_
    refine .reg rfl ?_
    refine .opp (P.asg .t0) rfl ?_
    refine .nil ?_
    refine .then ?_
    refine .bg rfl hO13 .k0 ?_
    refine .block ?_
    refine .seq ?_
    refine .reg rfl ?_
    refine .op (V.ld (v := u2) .t2 .k2 (.one isAgg74 rfl)) rfl ?_
    refine .opp (P.mov .t1) rfl ?_
    refine .op (V.ld (v := N s14.2.2.2) .g3 .k3 (.one isAgg3 rfl)) rfl ?_
    refine .opp (P.bin .t0 .k .and) rfl ?_
    obtain ⟨x36, hx37, hc18⟩ := bnd_eq hc18
    obtain ⟨i38, hi39, hx37⟩ := at_eq hx37
    have hi39_ : (s14.1).toNat = i38 := by rw [hi39]; rfl
    refine .ixql .k4 (map_get hx37) fun p33 q34 hq35 => ?_
    refine .opp (P.ixi (i := i38) .t1 hi39 .t1 hq35 runUnderlying74 sizeOf3) rfl ?_
    refine .opg (G.stx (off := q34) (k := 0) (cs' := [N (bandK .i64 s14.2.2.2 3)]) .t1 .t0 hq35 .k4 (map_get hx37) (.mk sizeOf3 rfl rfl rfl rfl)) rfl fun _ _ => ?_
    refine .conseq .k0 (q := lst 3 1 u2 ((s14.2.1.set (s14.1).toNat (bandK .i64 s14.2.2.2 3 : Int)).map (fun x => [N x]))) (fun _ h_ => by rw [hi39_]; simpa [List.map_set] using h_) ?_
    refine .nil ?_
    refine .then ?_
    refine .reg rfl ?_
    refine .op (V.ld (v := N s14.2.2.2) .g1 .k4 (.one isAgg3 rfl)) rfl ?_
    refine .opp (P.bin .t0 .k (.shr (by decide))) rfl ?_
    refine .opg (G.str .t0 .t1 .k4 (.mk (cs' := [N (shrK .i64 s14.2.2.2 2)]) sizeOf3 rfl rfl rfl rfl)) rfl fun _ _ => ?_
    refine .nil ?_
    refine .inn ?_
    refine .rnorm rfl ⟨rfl, rfl, rfl⟩ ha32 hO13 .k2 rfl ?_
    refine .inL rfl ?_
    refine .opp (P.not .t0) rfl ?_
    refine .nil ?_
    refine .then ?_
    refine .condF .t0 ?_
    refine .skip ?_
    refine .inn ?_
    refine .then ?_
    refine .reg rfl ?_
    refine .opp (P.mov .g0) rfl ?_
    refine .opp (P.bin .t0 .k .sub) rfl ?_
    refine .drop .k1 ?_
    refine .opp (P.asg .t0) rfl ?_
    refine .nil ?_
    cases hc18
    obtain ⟨m40, hm41, hn19⟩ := hn19
    exact .rdW ((IntKind.i64.wrap (s14.1 - 1), (s14.2.1.set (s14.1).toNat (bandK .i64 s14.2.2.2 3 : Int)), (s14.2.1.set (s14.1).toNat (bandK .i64 s14.2.2.2 3 : Int)), shrK .i64 s14.2.2.2 2)) () hm41 hn19 (.cons Mm.m0 (.cons Mm.m1 (.cons Mm.m2 .nil))) (.of (.cons .k3 (.cons .k3 (.cons .k1 (.cons .k1 (.cons .k0 (.cons .k0 .nil))))))) .nil
  · rw [if_neg (ne_true_of_eq_false c23)] at hc18
    refine .exit ?_
    refine .thx ?_
    cases hc18
    refine .told (γ := Unit) h hn19 (fun (s14 : Int × (List Int) × (List Int) × Int) _ => [(3, N s14.1), (0, yv l11), (1, pt b7 0)]) (fun (s14 : Int × (List Int) × (List Int) × Int) _ => [blk b7 74 [u2], blk b4 74 [u2], blk b1 3 [N s14.2.2.2], lst 3 1 u2 (s14.2.1.map (fun x => [N x])), obj l11 (O9 .ready none), obj D10 (.deferred (some []))]) (fun (s14 : Int × (List Int) × (List Int) × Int) _ => []) () (.cons Mm.m0 (.cons Mm.m1 (.cons Mm.m2 .nil))) (.of (.cons .k0 (.cons .k0 (.cons .k0 (.cons .k0 (.cons .k0 (.cons .k0 .nil))))))) .nil (fun s14 _ h' => ?_)
    replace h := h'
    refine .thx ?_
    refine .inb ?_
    refine .rfinn ha12 hO13 .k4 rfl ?_
    refine .inn ?_
    refine .then ?_
    refine .seq ?_
    refine .reg rfl ?_
    refine .op (V.ld (v := u2) .t0 .k1 (.one isAgg74 rfl)) rfl ?_
    refine .opp (P.asg .t0) rfl ?_
    refine .nil ?_
    refine .then ?_
    refine .ret ?_
    cases h
    exact .finm u2 .k4 (.r1 rfl (.tmp .g0)) trivial (Ls.of (.cons .k3 .nil)) .nil
attribute [irreducible] ots_spread
noncomputable def ots_Digits (a0 : List UInt8) : Option ((List Int)) :=
  Option.bind (hash_Sum a0) fun r1 => grd (0 ≤ (3 : Int) ∧ (3 : Int) ≤ r1.length) <| Option.bind (blob_Int (r1.take (3 : Int).toNat)) fun r6 => Option.bind (ots_spread r6 12) fun r8 => Option.bind (loopR (fun (i11 : Nat) (e14 : Int) (s12 : Int) => some (.nx (IntKind.i64.wrap (s12 - e14)))) 0 r8 36) fun o15 => Lo.on o15 fun (s12 : Int) => Option.bind (ots_spread s12 3) fun r28 => grd ((r8.length + r28.length) * 8 ≤ 140737488355328) <| some (r8 ++ r28)
set_option maxRecDepth 20000 in
set_option maxHeartbeats 1000000 in
theorem S_ots_Digits (v00 : Value) (a0 : List UInt8) (r : (List Int)) (h : ots_Digits a0 = some r) :
    SpecF Try.prog 66 [v00] [] [rows 1 v00 (a0.map (fun x => [B8 x]))] (fun z : Value => True) (fun z => z) (fun z M => lst 3 1 z (r.map (fun x => [N x])) ::  M) (fun z M =>  M) := by
  refine .of func66 rfl ntmps66 rfl fun w0 D0 G0 => ?_
  unfold ots_Digits at h
  refine .seq ?_
  refine .reg rfl ?_
  refine .op0 (OpP.toV (P.asg .k)) rfl ?_
  refine .nil ?_
  refine .then ?_
  refine .seq ?_
  refine .reg rfl ?_
  refine .opp (P.mov .t0) rfl ?_
  obtain ⟨r1, hr2, h⟩ := bnd_eq h
  refine .opg (G.call call59 (.cons .t0 .nil) (S_hash_Sum v00 a0 r1 hr2) .nil (.cons Mm.m0 .nil) (fun _ _ => rfl) (fun _ _ => rfl) rfl) rfl fun u3 _ => ?_
  obtain ⟨hb5, h⟩ := grd_eq h
  refine .opg (G.sll (m := 3) .t0 .k .k0 runUnderlying40 sizeOf5 hb5.1 (by simpa using hb5.2) rfl) rfl fun u4 _ => ?_
  refine .conseq .k0 (q := lst 5 1 u4 ((r1.take (3 : Int).toNat).map (fun x => [B8 x]))) (fun _ hh => by simpa using hh) ?_
  refine .frz .k0 ?_
  obtain ⟨r6, hr7, h⟩ := bnd_eq h
  refine .opg (G.call call81 (.cons .t0 .nil) (S_blob_Int u4 (r1.take (3 : Int).toNat) r6 hr7) .nil (.cons Mm.m0 .nil) (fun _ _ => rfl) (fun _ _ => rfl) rfl) rfl fun _ _ => ?_
  obtain ⟨r8, hr9, h⟩ := bnd_eq h
  refine .opg (G.call call80 (.cons .t0 (.cons .k .nil)) (S_ots_spread r6 12 r8 hr9) .nil .nil (fun _ _ => rfl) (fun _ _ => rfl) rfl) rfl fun u10 _ => ?_
  refine .opp (P.asg .t0) rfl ?_
  refine .nil ?_
  refine .then ?_
  refine .seq ?_
  refine .reg rfl ?_
  refine .opp (P.asg .k) rfl ?_
  refine .nil ?_
  refine .then ?_
  refine .seq ?_
  refine .seq ?_
  refine .reg rfl ?_
  refine .opp (P.mov .g1) rfl ?_
  refine .op (V.lnl (n := r8.length) .g0 .k0 map_len runUnderlying74) rfl ?_
  refine .opp (P.mov .k) rfl ?_
  refine .nil ?_
  refine .then ?_
  refine .block ?_
  obtain ⟨o15, ho16, h⟩ := bnd_eq h
  refine .lenql .k0 fun hl22 => ?_
  rw [map_len] at hl22
  refine .loopR (γ := Unit) (fun i11 (s12 : Int) z13 => [(14, N (i11 : Int)), (13, N (r8.length : Int)), (12, u10), (4, N s12), (3, u10)]) (fun (s12 : Int) z13 => [lst 3 1 u10 (r8.map (fun x => [N x]))]) (fun (s12 : Int) z13 => [rows 1 v00 (a0.map (fun x => [B8 x]))]) () ho16 (.cons Mm.m0 (.cons Mm.m1 (.cons Mm.m2 (.cons Mm.m3 (.cons Mm.m4 .nil))))) (.of (.cons .k0 .nil)) (.cons Mm.m1 .nil) (fun i11 s12 z13 hi23 hr19 => ?_)
  refine .seq ?_
  refine .reg rfl ?_
  refine .opp (P.bin (v := Bo (decide ((i11 : Int) < (r8.length : Nat)))) .g0 .g1 .lss) rfl ?_
  refine .nil ?_
  refine .then ?_
  refine .seq ?_
  refine .cond .t0 (fun c24 => ?_) (fun c24 => ?_)
  · obtain ⟨e14, hx21⟩ := get_of c24
    obtain ⟨ct20, hc17, hn18⟩ := loopR_at hx21 hr19
    refine .skip ?_
    refine .then ?_
    refine .seq ?_
    refine .block ?_
    refine .seq ?_
    refine .reg rfl ?_
    refine .ixql .k0 (map_get hx21) fun p25 q26 hq27 => ?_
    refine .opp (P.ixi (i := i11) .g0 rfl .g2 hq27 runUnderlying74 sizeOf3) rfl ?_
    refine .op (V.ldxl0 (u := N e14) .t0 hq27 .k0 (map_get hx21) (.one isAgg3 rfl)) rfl ?_
    refine .opp (P.asg .t0) rfl ?_
    refine .nil ?_
    refine .then ?_
    refine .reg rfl ?_
    refine .opp (P.mov .g4) rfl ?_
    refine .opp (P.mov .t1) rfl ?_
    refine .opp (P.bin .t1 .t0 .sub) rfl ?_
    refine .drop .k4 ?_
    refine .opp (P.asg .t0) rfl ?_
    refine .nil ?_
    refine .inn ?_
    refine .then ?_
    refine .reg rfl ?_
    refine .opp (P.bin .g1 .k (.addc (inc_ok (lt_of_get hx21) hl22))) rfl ?_
    refine .drop .k2 ?_
    refine .opp (P.mov .t0) rfl ?_
    refine .nil ?_
    cases hc17
    exact .rdR (IntKind.i64.wrap (s12 - e14)) () hn18 (lt_of_get hx21) (.cons Mm.m0 (.cons Mm.m2 (.cons Mm.m3 (.cons Mm.m1 (.cons Mm.m4 .nil))))) (.of (.cons .k0 .nil)) (.cons Mm.m0 .nil)
  · obtain rfl := loopR_end (le_of_not c24) hr19
    have h := dn_on h
    refine .exit ?_
    refine .thx ?_
    refine .thx ?_
    refine .inb ?_
    refine .then ?_
    refine .seq ?_
    refine .reg rfl ?_
    refine .opp (P.mov .t4) rfl ?_
    refine .opp (P.mov .t4) rfl ?_
    obtain ⟨r28, hr29, h⟩ := bnd_eq h
    refine .opg (G.call call80 (.cons .t0 (.cons .k .nil)) (S_ots_spread s12 3 r28 hr29) .nil .nil (fun _ _ => rfl) (fun _ _ => rfl) rfl) rfl fun u30 _ => ?_
    obtain ⟨hb32, h⟩ := grd_eq h
    refine .opg (G.app (by_ := 8) .t1 .t0 .k1 (.inr (.inr ⟨_, Mm.m0⟩)) runUnderlying74 runUnderlying74 sizeOf3 typeInfo3 rfl rfl zeroValue3 rfl (one_map one_3 _) (by simpa using hb32) rfl) rfl fun u31 _ => ?_
    refine .conseq .k0 (q := lst 3 1 u31 ((r8 ++ r28).map (fun x => [N x]))) (fun _ hh => by simpa [List.map_append] using hh) ?_
    refine .opp (P.asg .t0) rfl ?_
    refine .nil ?_
    refine .then ?_
    refine .ret ?_
    cases h
    exact .finw u31 (.r1 rfl (.tmp .g0)) trivial (Ls.of (.cons .k0 .nil)) .nil
attribute [irreducible] ots_Digits
noncomputable def hash_Short_n1 (a0a : List UInt8) : Option (ByteArray) :=
  Option.bind (hash_Text_n1 a0a) fun r1 => grd (okS r1.size none (some 8) none) <| some ((r1.extract 0 (8 : Int).toNat))
set_option maxRecDepth 20000 in
set_option maxHeartbeats 1000000 in
theorem S_hash_Short_n1 (v00 : Value) (z00a : Value) (a0a : List UInt8) (r : ByteArray) (h : hash_Short_n1 a0a = some r) :
    SpecF Try.prog 77 [v00] [] [rows 1 v00 [[z00a]], rows 1 z00a (a0a.map (fun x => [B8 x]))] (fun z : Unit => True) (fun z => .string r) (fun z M =>  M) (fun z M =>  M) := by
  refine .of func77 rfl ntmps77 rfl fun w0 D0 G0 => ?_
  unfold hash_Short_n1 at h
  refine .seq ?_
  refine .reg rfl ?_
  refine .op0 (OpP.toV (P.asg .k)) rfl ?_
  refine .nil ?_
  refine .then ?_
  refine .seq ?_
  refine .reg rfl ?_
  refine .opp (P.mov .t0) rfl ?_
  obtain ⟨r1, hr2, h⟩ := bnd_eq h
  refine .opg (G.call call47 (.cons .t0 .nil) (S_hash_Text_n1 v00 z00a a0a r1 hr2) .nil (.cons Mm.m0 (.cons Mm.m1 .nil)) (fun _ _ => rfl) (fun _ _ => rfl) rfl) rfl fun _ _ => ?_
  obtain ⟨hb3, h⟩ := grd_eq h
  refine .opp (P.slst (li := none) (hj := (some 8)) .t0 .none (.some .k) runUnderlying9 hb3) rfl ?_
  refine .opp (P.asg .t0) rfl ?_
  refine .nil ?_
  refine .then ?_
  refine .ret ?_
  cases h
  exact .finw () (.r1 rfl (.tmp .g0)) trivial (Ls.of .nil) .nil
attribute [irreducible] hash_Short_n1
noncomputable def ots_Walk (a0 : ByteArray) (a1 : Int) : Option (ByteArray) :=
  Option.bind (loopW (fun (s1 : Int × ByteArray) => if (decide (s1.1 < (if 3 < (if 0 > a1 then 0 else a1) then 3 else if 0 > a1 then 0 else a1))) = true then (grd (s1.2.size ≤ 140737488355328) <| Option.bind (hash_Short_n1 (s1.2.data.toList)) fun r15 => some (.nx ((IntKind.i64.wrap (s1.1 + 1), r15)))) else (some (.br (s1.1, s1.2)))) (0, a0)) fun o3 => Lo.on o3 fun (s1 : Int × ByteArray) => some s1.2
set_option maxRecDepth 20000 in
set_option maxHeartbeats 1000000 in
theorem S_ots_Walk (a0 : ByteArray) (a1 : Int) (r : ByteArray) (h : ots_Walk a0 a1 = some r) :
    SpecF Try.prog 79 [.string a0, N a1] [] [] (fun z : Unit => True) (fun z => .string r) (fun z M =>  M) (fun z M =>  M) := by
  refine .of func79 rfl ntmps79 rfl fun w0 D0 G0 => ?_
  unfold ots_Walk at h
  refine .seq ?_
  refine .reg rfl ?_
  refine .op0 (OpP.toV (P.asg .k)) rfl ?_
  refine .nil ?_
  refine .then ?_
  refine .seq ?_
  refine .seq ?_
  refine .reg rfl ?_
  refine .opp (P.mov .t1) rfl ?_
  refine .opp (P.max2 .t0 .k) rfl ?_
  refine .opp (P.min2 .t0 .k) rfl ?_
  refine .opp (P.mov .k) rfl ?_
  refine .nil ?_
  refine .then ?_
  refine .block ?_
  obtain ⟨o3, ho4, h⟩ := bnd_eq h
  refine .loopW (γ := Unit) (fun (s1 : Int × ByteArray) z2 => [(8, N s1.1), (7, N (if 3 < (if 0 > a1 then 0 else a1) then 3 else if 0 > a1 then 0 else a1)), (0, .string s1.2)]) (fun (s1 : Int × ByteArray) z2 => []) (fun (s1 : Int × ByteArray) z2 => []) () ho4 (.cons Mm.m0 (.cons Mm.m1 (.cons Mm.m2 .nil))) (.of .nil) .nil (fun n9 s1 z2 hr7 => ?_)
  obtain ⟨ct8, hc5, hn6⟩ := loopK_at hr7
  refine .seq ?_
  refine .reg rfl ?_
  refine .opp (P.bin .g0 .g1 .lss) rfl ?_
  refine .nil ?_
  refine .then ?_
  refine .seq ?_
  refine .cond .t0 (fun c10 => ?_) (fun c10 => ?_)
  · rw [if_pos c10] at hc5
    refine .skip ?_
    refine .then ?_
    refine .seq ?_
    refine .block ?_
    refine .reg rfl ?_
    refine .opp (P.mov .g2) rfl ?_
    obtain ⟨hb12, hc5⟩ := grd_eq hc5
    refine .opg (G.s2b (e := 5) .t0 (by kernel_rfl) (by kernel_rfl) (by kernel_rfl) hb12 rfl) rfl fun u11 _ => ?_
    refine .oner Mm.m0 fun ho14 => ?_
    refine .opg (G.bsl (cs := [u11]) .t0 runUnderlying94 sizeOf40 zeroValue40 (cells1 ho14) rfl rfl rfl rfl) rfl fun u13 _ => ?_
    refine .frz .k0 ?_
    obtain ⟨r15, hr16, hc5⟩ := bnd_eq hc5
    refine .opg (G.call call77 (.cons .t0 .nil) (S_hash_Short_n1 u13 u11 (s1.2.data.toList) r15 hr16) .nil (.cons Mm.m0 (.cons Mm.m1 .nil)) (fun _ _ => rfl) (fun _ _ => rfl) rfl) rfl fun _ _ => ?_
    refine .drop .k3 ?_
    refine .opp (P.asg .t0) rfl ?_
    refine .nil ?_
    refine .inn ?_
    refine .then ?_
    refine .reg rfl ?_
    refine .opp (P.bin .g1 .k .add) rfl ?_
    refine .drop .k2 ?_
    refine .opp (P.mov .t0) rfl ?_
    refine .nil ?_
    cases hc5
    obtain ⟨m17, hm18, hn6⟩ := hn6
    exact .rdW ((IntKind.i64.wrap (s1.1 + 1), r15)) () hm18 hn6 (.cons Mm.m0 (.cons Mm.m2 (.cons Mm.m1 .nil))) (.of .nil) .nil
  · rw [if_neg (ne_true_of_eq_false c10)] at hc5
    refine .exit ?_
    refine .thx ?_
    cases hc5
    refine .told (γ := Unit) h hn6 (fun (s1 : Int × ByteArray) _ => [(8, N s1.1), (7, N (if 3 < (if 0 > a1 then 0 else a1) then 3 else if 0 > a1 then 0 else a1)), (0, .string s1.2)]) (fun (s1 : Int × ByteArray) _ => []) (fun (s1 : Int × ByteArray) _ => []) () (.cons Mm.m0 (.cons Mm.m1 (.cons Mm.m2 .nil))) (.of .nil) .nil (fun s1 _ h' => ?_)
    replace h := h'
    refine .thx ?_
    refine .inb ?_
    refine .then ?_
    refine .seq ?_
    refine .reg rfl ?_
    refine .opp (P.mov .t2) rfl ?_
    refine .opp (P.asg .t0) rfl ?_
    refine .nil ?_
    refine .then ?_
    refine .ret ?_
    cases h
    exact .finw () (.r1 rfl (.tmp .g0)) trivial (Ls.of .nil) .nil
attribute [irreducible] ots_Walk
noncomputable def slices_Concat_byte (a0 : List (List UInt8)) : Option ((List UInt8)) :=
  Option.bind (loopR (fun (i3 : Nat) (e6 : List UInt8) (s4 : Int) => if (decide ((IntKind.i64.wrap (s4 + (e6.length : Int))) < 0)) = true then none else (some (.nx (IntKind.i64.wrap (s4 + (e6.length : Int)))))) 0 a0 0) fun o7 => Lo.on o7 fun (s4 : Int) => Option.bind (slices_Grow_byte_nil s4) fun r23 => Option.bind (loopR (fun (i28 : Nat) (e31 : List UInt8) (s29 : (List UInt8)) => grd ((s29.length + e31.length) * 1 ≤ 140737488355328) <| some (.nx (s29 ++ e31))) 0 a0 r23) fun o32 => Lo.on o32 fun (s29 : (List UInt8)) => some s29
set_option maxRecDepth 20000 in
set_option maxHeartbeats 1000000 in
theorem S_slices_Concat_byte (v00 : Value) (a0 : List (List UInt8)) (zl00 : List Value) (r : (List UInt8)) (h : slices_Concat_byte a0 = some r) :
    SpecF Try.prog 70 [v00] [] [rows 1 v00 (List.zipWith (fun (_ : List UInt8) z => [z]) a0 zl00), gz (fun (x : List UInt8) z => rows 1 z (x.map (fun x => [B8 x]))) a0 zl00] (fun z : Value => True) (fun z => z) (fun z M => lst 5 1 z (r.map (fun x => [B8 x])) ::  M) (fun z M =>  M) := by
  refine .of func70 rfl ntmps70 rfl fun w0 D0 G0 => ?_
  unfold slices_Concat_byte at h
  refine .seq ?_
  refine .reg rfl ?_
  refine .op0 (OpP.toV (P.asg .k)) rfl ?_
  refine .nil ?_
  refine .then ?_
  refine .seq ?_
  refine .reg rfl ?_
  refine .opp (P.asg .k) rfl ?_
  refine .nil ?_
  refine .then ?_
  refine .seq ?_
  refine .seq ?_
  refine .reg rfl ?_
  refine .opp (P.mov .g1) rfl ?_
  refine .gzl Mm.m1 fun hz1 => ?_
  refine .op (V.lnr (n := a0.length) .g0 Mm.m0 (zip_len hz1) runUnderlying94) rfl ?_
  refine .opp (P.mov .k) rfl ?_
  refine .nil ?_
  refine .then ?_
  refine .block ?_
  obtain ⟨o7, ho8, h⟩ := bnd_eq h
  refine .gzl Mm.m1 fun hz17 => ?_
  refine .lenq Mm.m0 fun hl14 => ?_
  rw [zip_len hz17] at hl14
  refine .loopR (γ := Unit) (fun i3 (s4 : Int) z5 => [(11, N (i3 : Int)), (10, N (a0.length : Int)), (9, v00), (3, N s4), (0, v00)]) (fun (s4 : Int) z5 => []) (fun (s4 : Int) z5 => [gz (fun (x : List UInt8) z => rows 1 z (x.map (fun x => [B8 x]))) a0 zl00, rows 1 v00 (List.zipWith (fun (_ : List UInt8) z => [z]) a0 zl00)]) () ho8 (.cons Mm.m0 (.cons Mm.m1 (.cons Mm.m2 (.cons Mm.m3 (.cons Mm.m4 .nil))))) (.of .nil) (.cons Mm.m1 (.cons Mm.m0 .nil)) (fun i3 s4 z5 hi15 hr11 => ?_)
  refine .seq ?_
  refine .reg rfl ?_
  refine .opp (P.bin (v := Bo (decide ((i3 : Int) < (a0.length : Nat)))) .g0 .g1 .lss) rfl ?_
  refine .nil ?_
  refine .then ?_
  refine .seq ?_
  refine .cond .t0 (fun c16 => ?_) (fun c16 => ?_)
  · obtain ⟨e6, hx13⟩ := get_of c16
    obtain ⟨ct12, hc9, hn10⟩ := loopR_at hx13 hr11
    refine .gzx (D := (fun (_ : List UInt8) z => [z])) (q := fun z_ => rows 1 z_ (e6.map (fun x => [B8 x]))) Mm.m0 hx13 (fun _ => rfl) fun u2 _ hx18 => ?_
    refine .skip ?_
    refine .then ?_
    refine .seq ?_
    refine .block ?_
    refine .seq ?_
    refine .reg rfl ?_
    refine .ixq Mm.m2 hx18 fun p19 q20 hq21 => ?_
    refine .opp (P.ixi (i := i3) .g0 rfl .g2 hq21 runUnderlying94 sizeOf40) rfl ?_
    refine .op (V.ldx0 (u := u2) .t0 hq21 Mm.m2 hx18 (.one isAgg40 rfl)) rfl ?_
    refine .opp (P.asg .t0) rfl ?_
    refine .nil ?_
    refine .then ?_
    refine .seq ?_
    refine .reg rfl ?_
    refine .opp (P.mov .g4) rfl ?_
    refine .opp (P.mov .t1) rfl ?_
    refine .op (V.lnr (n := e6.length) .t0 Mm.m0 map_len runUnderlying40) rfl ?_
    refine .opp (P.bin .t1 .t0 .add) rfl ?_
    refine .drop .k4 ?_
    refine .opp (P.asg .t0) rfl ?_
    refine .nil ?_
    refine .then ?_
    refine .seq ?_
    refine .reg rfl ?_
    refine .opp (P.mov .g0) rfl ?_
    refine .opp (P.bin .t0 .k .lss) rfl ?_
    refine .nil ?_
    refine .then ?_
    refine .cond .t0 (fun c22 => ?_) (fun c22 => ?_)
    · rw [if_pos c22] at hc9
      refine .reg rfl ?_
      cases hc9
    · rw [if_neg (ne_true_of_eq_false c22)] at hc9
      refine .skip ?_
      refine .inn ?_
      refine .then ?_
      refine .reg rfl ?_
      refine .opp (P.bin .g1 .k (.addc (inc_ok (lt_of_get hx13) hl14))) rfl ?_
      refine .drop .k2 ?_
      refine .opp (P.mov .t0) rfl ?_
      refine .nil ?_
      cases hc9
      exact .rdR (IntKind.i64.wrap (s4 + (e6.length : Int))) () hn10 (lt_of_get hx13) (.cons Mm.m0 (.cons Mm.m2 (.cons Mm.m3 (.cons Mm.m1 (.cons Mm.m4 .nil))))) (.of .nil) (.cons Mm.m1 (.cons Mm.m2 .nil))
  · obtain rfl := loopR_end (le_of_not c16) hr11
    have h := dn_on h
    refine .exit ?_
    refine .thx ?_
    refine .thx ?_
    refine .inb ?_
    refine .then ?_
    refine .seq ?_
    refine .reg rfl ?_
    refine .opp (P.mov .t3) rfl ?_
    obtain ⟨r23, hr24, h⟩ := bnd_eq h
    refine .opg (G.call call84 (.cons .k (.cons .t0 .nil)) (S_slices_Grow_byte_nil s4 r23 hr24) .nil .nil (fun _ _ => rfl) (fun _ _ => rfl) rfl) rfl fun u25 _ => ?_
    refine .opp (P.asg .t0) rfl ?_
    refine .nil ?_
    refine .then ?_
    refine .seq ?_
    refine .seq ?_
    refine .reg rfl ?_
    refine .opp (P.mov .t4) rfl ?_
    refine .gzl Mm.m0 fun hz26 => ?_
    refine .op (V.lnr (n := a0.length) .g0 Mm.m1 (zip_len hz26) runUnderlying94) rfl ?_
    refine .opp (P.mov .k) rfl ?_
    refine .nil ?_
    refine .then ?_
    refine .block ?_
    obtain ⟨o32, ho33, h⟩ := bnd_eq h
    refine .gzl Mm.m0 fun hz42 => ?_
    refine .lenq Mm.m1 fun hl39 => ?_
    rw [zip_len hz42] at hl39
    refine .loopR (γ := Value) (fun i28 (s29 : (List UInt8)) z30 => [(27, N (i28 : Int)), (26, N (a0.length : Int)), (25, v00), (6, z30)]) (fun (s29 : (List UInt8)) z30 => [lst 5 1 z30 (s29.map (fun x => [B8 x]))]) (fun (s29 : (List UInt8)) z30 => [gz (fun (x : List UInt8) z => rows 1 z (x.map (fun x => [B8 x]))) a0 zl00, rows 1 v00 (List.zipWith (fun (_ : List UInt8) z => [z]) a0 zl00)]) u25 ho33 (.cons Mm.m0 (.cons Mm.m1 (.cons Mm.m2 (.cons Mm.m3 .nil)))) (.of (.cons .k0 .nil)) (.cons Mm.m0 (.cons Mm.m1 .nil)) (fun i28 s29 z30 hi40 hr36 => ?_)
    refine .seq ?_
    refine .reg rfl ?_
    refine .opp (P.bin (v := Bo (decide ((i28 : Int) < (a0.length : Nat)))) .g0 .g1 .lss) rfl ?_
    refine .nil ?_
    refine .then ?_
    refine .seq ?_
    refine .cond .t0 (fun c41 => ?_) (fun c41 => ?_)
    · obtain ⟨e31, hx38⟩ := get_of c41
      obtain ⟨ct37, hc34, hn35⟩ := loopR_at hx38 hr36
      refine .gzx (D := (fun (_ : List UInt8) z => [z])) (q := fun z_ => rows 1 z_ (e31.map (fun x => [B8 x]))) Mm.m0 hx38 (fun _ => rfl) fun u27 _ hx43 => ?_
      refine .skip ?_
      refine .then ?_
      refine .seq ?_
      refine .block ?_
      refine .seq ?_
      refine .reg rfl ?_
      refine .ixq Mm.m2 hx43 fun p44 q45 hq46 => ?_
      refine .opp (P.ixi (i := i28) .g0 rfl .g2 hq46 runUnderlying94 sizeOf40) rfl ?_
      refine .op (V.ldx0 (u := u27) .t0 hq46 Mm.m2 hx43 (.one isAgg40 rfl)) rfl ?_
      refine .opp (P.asg .t0) rfl ?_
      refine .nil ?_
      refine .then ?_
      refine .reg rfl ?_
      refine .opp (P.mov .g4) rfl ?_
      refine .opp (P.mov .t1) rfl ?_
      obtain ⟨hb48, hc34⟩ := grd_eq hc34
      refine .opg (G.app (by_ := 1) .t1 .t0 .k0 (.inl Mm.m0) runUnderlying40 runUnderlying40 sizeOf5 typeInfo5 rfl rfl zeroValue5 rfl (one_map one_5 _) (by simpa using hb48) rfl) rfl fun u47 _ => ?_
      refine .conseq .k0 (q := lst 5 1 u47 ((s29 ++ e31).map (fun x => [B8 x]))) (fun _ hh => by simpa [List.map_append] using hh) ?_
      refine .drop .k4 ?_
      refine .opp (P.asg .t0) rfl ?_
      refine .nil ?_
      refine .inn ?_
      refine .then ?_
      refine .reg rfl ?_
      refine .opp (P.bin .g1 .k (.addc (inc_ok (lt_of_get hx38) hl39))) rfl ?_
      refine .drop .k2 ?_
      refine .opp (P.mov .t0) rfl ?_
      refine .nil ?_
      cases hc34
      exact .rdR (s29 ++ e31) u47 hn35 (lt_of_get hx38) (.cons Mm.m0 (.cons Mm.m2 (.cons Mm.m3 (.cons Mm.m1 .nil)))) (.of (.cons .k0 .nil)) (.cons Mm.m1 (.cons Mm.m2 .nil))
    · obtain rfl := loopR_end (le_of_not c41) hr36
      have h := dn_on h
      refine .exit ?_
      refine .thx ?_
      refine .thx ?_
      refine .inb ?_
      refine .then ?_
      refine .seq ?_
      refine .reg rfl ?_
      refine .opp (P.mov .t3) rfl ?_
      refine .opp (P.asg .t0) rfl ?_
      refine .nil ?_
      refine .then ?_
      refine .ret ?_
      cases h
      exact .finw z30 (.r1 rfl (.tmp .g0)) trivial (Ls.of (.cons .k0 .nil)) .nil
attribute [irreducible] slices_Concat_byte
noncomputable def blob_Cat (a0 : List (List UInt8)) : Option ((List UInt8)) :=
  Option.bind (slices_Concat_byte a0) fun r1 => some r1
set_option maxRecDepth 20000 in
set_option maxHeartbeats 1000000 in
theorem S_blob_Cat (v00 : Value) (a0 : List (List UInt8)) (zl00 : List Value) (r : (List UInt8)) (h : blob_Cat a0 = some r) :
    SpecF Try.prog 58 [v00] [] [rows 1 v00 (List.zipWith (fun (_ : List UInt8) z => [z]) a0 zl00), gz (fun (x : List UInt8) z => rows 1 z (x.map (fun x => [B8 x]))) a0 zl00] (fun z : Value => True) (fun z => z) (fun z M => lst 5 1 z (r.map (fun x => [B8 x])) ::  M) (fun z M =>  M) := by
  refine .of func58 rfl ntmps58 rfl fun w0 D0 G0 => ?_
  unfold blob_Cat at h
  refine .seq ?_
  refine .reg rfl ?_
  refine .op0 (OpP.toV (P.asg .k)) rfl ?_
  refine .nil ?_
  refine .then ?_
  refine .seq ?_
  refine .reg rfl ?_
  refine .opp (P.mov .t0) rfl ?_
  obtain ⟨r1, hr2, h⟩ := bnd_eq h
  refine .opg (G.call call70 (.cons .t0 .nil) (S_slices_Concat_byte v00 a0 zl00 r1 hr2) .nil (.cons Mm.m0 (.cons Mm.m1 .nil)) (fun _ _ => rfl) (fun _ _ => rfl) rfl) rfl fun u3 _ => ?_
  refine .opp (P.asg .t0) rfl ?_
  refine .nil ?_
  refine .then ?_
  refine .ret ?_
  cases h
  exact .finw u3 (.r1 rfl (.tmp .g0)) trivial (Ls.of (.cons .k0 .nil)) .nil
attribute [irreducible] blob_Cat
noncomputable def hash_Text (a0 : List (List UInt8)) : Option (ByteArray) :=
  Option.bind (blob_Cat a0) fun r1 => Option.bind (hash_Sum r1) fun r4 => some (⟨⟨r4⟩⟩ : ByteArray)
set_option maxRecDepth 20000 in
set_option maxHeartbeats 1000000 in
theorem S_hash_Text (v00 : Value) (a0 : List (List UInt8)) (zl00 : List Value) (r : ByteArray) (h : hash_Text a0 = some r) :
    SpecF Try.prog 47 [v00] [] [rows 1 v00 (List.zipWith (fun (_ : List UInt8) z => [z]) a0 zl00), gz (fun (x : List UInt8) z => rows 1 z (x.map (fun x => [B8 x]))) a0 zl00] (fun z : Unit => True) (fun z => .string r) (fun z M =>  M) (fun z M =>  M) := by
  refine .of func47 rfl ntmps47 rfl fun w0 D0 G0 => ?_
  unfold hash_Text at h
  refine .seq ?_
  refine .reg rfl ?_
  refine .op0 (OpP.toV (P.asg .k)) rfl ?_
  refine .nil ?_
  refine .then ?_
  refine .seq ?_
  refine .reg rfl ?_
  refine .opp (P.mov .t0) rfl ?_
  obtain ⟨r1, hr2, h⟩ := bnd_eq h
  refine .opg (G.call call58 (.cons .t0 .nil) (S_blob_Cat v00 a0 zl00 r1 hr2) .nil (.cons Mm.m0 (.cons Mm.m1 .nil)) (fun _ _ => rfl) (fun _ _ => rfl) rfl) rfl fun u3 _ => ?_
  refine .frz .k0 ?_
  obtain ⟨r4, hr5, h⟩ := bnd_eq h
  refine .opg (G.call call59 (.cons .t0 .nil) (S_hash_Sum u3 r1 r4 hr5) .nil (.cons Mm.m0 .nil) (fun _ _ => rfl) (fun _ _ => rfl) rfl) rfl fun u6 _ => ?_
  refine .op (V.b2sl (l := r4) (e := 5) .t0 .k0 (by kernel_rfl) (by kernel_rfl) (by kernel_rfl)) rfl ?_
  refine .opp (P.asg .t0) rfl ?_
  refine .nil ?_
  refine .then ?_
  refine .ret ?_
  cases h
  exact .finw () (.r1 rfl (.tmp .g0)) trivial (Ls.of .nil) .nil
attribute [irreducible] hash_Text
noncomputable def hash_Short (a0 : List (List UInt8)) : Option (ByteArray) :=
  Option.bind (hash_Text a0) fun r1 => grd (okS r1.size none (some 8) none) <| some ((r1.extract 0 (8 : Int).toNat))
set_option maxRecDepth 20000 in
set_option maxHeartbeats 1000000 in
theorem S_hash_Short (v00 : Value) (a0 : List (List UInt8)) (zl00 : List Value) (r : ByteArray) (h : hash_Short a0 = some r) :
    SpecF Try.prog 77 [v00] [] [rows 1 v00 (List.zipWith (fun (_ : List UInt8) z => [z]) a0 zl00), gz (fun (x : List UInt8) z => rows 1 z (x.map (fun x => [B8 x]))) a0 zl00] (fun z : Unit => True) (fun z => .string r) (fun z M =>  M) (fun z M =>  M) := by
  refine .of func77 rfl ntmps77 rfl fun w0 D0 G0 => ?_
  unfold hash_Short at h
  refine .seq ?_
  refine .reg rfl ?_
  refine .op0 (OpP.toV (P.asg .k)) rfl ?_
  refine .nil ?_
  refine .then ?_
  refine .seq ?_
  refine .reg rfl ?_
  refine .opp (P.mov .t0) rfl ?_
  obtain ⟨r1, hr2, h⟩ := bnd_eq h
  refine .opg (G.call call47 (.cons .t0 .nil) (S_hash_Text v00 a0 zl00 r1 hr2) .nil (.cons Mm.m0 (.cons Mm.m1 .nil)) (fun _ _ => rfl) (fun _ _ => rfl) rfl) rfl fun _ _ => ?_
  obtain ⟨hb3, h⟩ := grd_eq h
  refine .opp (P.slst (li := none) (hj := (some 8)) .t0 .none (.some .k) runUnderlying9 hb3) rfl ?_
  refine .opp (P.asg .t0) rfl ?_
  refine .nil ?_
  refine .then ?_
  refine .ret ?_
  cases h
  exact .finw () (.r1 rfl (.tmp .g0)) trivial (Ls.of .nil) .nil
attribute [irreducible] hash_Short
noncomputable def ots_closed (a0 : List ByteArray) (a1 : List Int) : Option (ByteArray) :=
  Option.bind (loopR (fun (i1 : Nat) (e4 : ByteArray) (s2 : (List (List UInt8))) => Option.bind (at_ a1 (i1 : Int)) fun (x21 : Int) => Option.bind (ots_Walk e4 (IntKind.i64.wrap (3 - x21))) fun r25 => grd (r25.size ≤ 140737488355328) <| grd ((s2.length + ([(r25.data.toList)] : List (List UInt8)).length) * 24 ≤ 140737488355328) <| some (.nx ((s2 ++ ([(r25.data.toList)] : List (List UInt8)))))) 0 a0 ([])) fun o5 => Lo.on o5 fun (s2 : (List (List UInt8))) => Option.bind (hash_Short s2) fun r35 => some r35
set_option maxRecDepth 20000 in
set_option maxHeartbeats 1000000 in
theorem S_ots_closed (v00 : Value) (a0 : List ByteArray) (v01 : Value) (a1 : List Int) (r : ByteArray) (h : ots_closed a0 a1 = some r) :
    SpecF Try.prog 65 [v00, v01] [] [rows 1 v00 (a0.map (fun x => [.string x])), rows 1 v01 (a1.map (fun x => [N x]))] (fun z : Unit => True) (fun z => .string r) (fun z M =>  M) (fun z M =>  M) := by
  refine .of func65 rfl ntmps65 rfl fun w0 D0 G0 => ?_
  unfold ots_closed at h
  refine .seq ?_
  refine .reg rfl ?_
  refine .op0 (OpP.toV (P.asg .k)) rfl ?_
  refine .nil ?_
  refine .then ?_
  refine .seq ?_
  refine .reg rfl ?_
  refine .opp (P.asg .k) rfl ?_
  refine .nil ?_
  refine .then ?_
  refine .seq ?_
  refine .seq ?_
  refine .reg rfl ?_
  refine .opp (P.mov .t1) rfl ?_
  refine .op (V.lnr (n := a0.length) .g0 Mm.m0 map_len runUnderlying47) rfl ?_
  refine .opp (P.mov .k) rfl ?_
  refine .nil ?_
  refine .then ?_
  refine .block ?_
  refine .lnil 40 1 ?_
  refine .gzn (G := (fun (x : List UInt8) z => rows 1 z (x.map (fun x => [B8 x])))) ?_
  obtain ⟨o5, ho6, h⟩ := bnd_eq h
  refine .lenq Mm.m1 fun hl12 => ?_
  rw [map_len] at hl12
  refine .loopR (γ := Value × List Value) (fun i1 (s2 : (List (List UInt8))) z3 => [(10, N (i1 : Int)), (9, N (a0.length : Int)), (8, v00), (5, z3.1), (1, v01)]) (fun (s2 : (List (List UInt8))) z3 => [lst 40 1 z3.1 (List.zipWith (fun (_ : List UInt8) z => [z]) s2 z3.2)]) (fun (s2 : (List (List UInt8))) z3 => [rows 1 v00 (a0.map (fun x => [.string x])), gz (fun (x : List UInt8) z => rows 1 z (x.map (fun x => [B8 x]))) s2 z3.2, rows 1 v01 (a1.map (fun x => [N x]))]) ⟨nilSl, []⟩ ho6 (.cons Mm.m0 (.cons Mm.m1 (.cons Mm.m2 (.cons Mm.m3 (.cons Mm.m4 .nil))))) (.of (.cons .k0 .nil)) (.cons Mm.m1 (.cons Mm.m0 (.cons Mm.m2 .nil))) (fun i1 s2 z3 hi13 hr9 => ?_)
  refine .seq ?_
  refine .reg rfl ?_
  refine .opp (P.bin (v := Bo (decide ((i1 : Int) < (a0.length : Nat)))) .g0 .g1 .lss) rfl ?_
  refine .nil ?_
  refine .then ?_
  refine .seq ?_
  refine .cond .t0 (fun c14 => ?_) (fun c14 => ?_)
  · obtain ⟨e4, hx11⟩ := get_of c14
    obtain ⟨ct10, hc7, hn8⟩ := loopR_at hx11 hr9
    refine .skip ?_
    refine .then ?_
    refine .seq ?_
    refine .block ?_
    refine .seq ?_
    refine .reg rfl ?_
    refine .opp (P.mov .g0) rfl ?_
    refine .ixq Mm.m0 (map_get hx11) fun p15 q16 hq17 => ?_
    refine .opp (P.ixi (i := i1) .g1 rfl .g3 hq17 runUnderlying47 sizeOf9) rfl ?_
    refine .op (V.ldx0 (u := .string e4) .t0 hq17 Mm.m0 (map_get hx11) (.one isAgg9 rfl)) rfl ?_
    refine .opp (P.asg .t1) rfl ?_
    refine .opp (P.asg .t1) rfl ?_
    refine .nil ?_
    refine .then ?_
    refine .reg rfl ?_
    refine .opp (P.mov .g5) rfl ?_
    refine .opp (P.mov .t1) rfl ?_
    refine .opp (P.mov .g7) rfl ?_
    refine .opp (P.mov .t3) rfl ?_
    obtain ⟨x21, hx22, hc7⟩ := bnd_eq hc7
    obtain ⟨i23, hi24, hx22⟩ := at_eq hx22
    have hi24_ : ((i1 : Int)).toNat = i23 := by rw [hi24]; rfl
    refine .ixq Mm.m2 (map_get hx22) fun p18 q19 hq20 => ?_
    refine .opp (P.ixi (i := i23) .t0 hi24 .t0 hq20 runUnderlying74 sizeOf3) rfl ?_
    refine .op (V.ldx0 (u := N x21) .t0 hq20 Mm.m2 (map_get hx22) (.one isAgg3 rfl)) rfl ?_
    refine .opp (P.bin .k .t0 .sub) rfl ?_
    obtain ⟨r25, hr26, hc7⟩ := bnd_eq hc7
    refine .opg (G.call call79 (.cons .t1 (.cons .t0 .nil)) (S_ots_Walk e4 (IntKind.i64.wrap (3 - x21)) r25 hr26) .nil .nil (fun _ _ => rfl) (fun _ _ => rfl) rfl) rfl fun _ _ => ?_
    obtain ⟨hb28, hc7⟩ := grd_eq hc7
    refine .opg (G.s2b (e := 5) .t0 (by kernel_rfl) (by kernel_rfl) (by kernel_rfl) hb28 rfl) rfl fun u27 _ => ?_
    refine .oner Mm.m0 fun ho30 => ?_
    refine .opg (G.bsl (cs := [u27]) .t0 runUnderlying94 sizeOf40 zeroValue40 (cells1 ho30) rfl rfl rfl rfl) rfl fun u29 _ => ?_
    refine .gzl Mm.m2 fun hz32 => ?_
    refine .gzn (G := (fun (x : List UInt8) z => rows 1 z (x.map (fun x => [B8 x])))) ?_
    refine .gzc (x := (r25.data.toList)) (z := u27) Mm.m0 rfl ?_
    refine .gzo (D := (fun (_ : List UInt8) z => [z])) Mm.m0 (fun _ _ _ h => rows_one h) (fun _ _ h => onez h) fun ho33 => ?_
    refine .gza Mm.m3 Mm.m0 ?_
    obtain ⟨hb34, hc7⟩ := grd_eq hc7
    refine .opg (G.app (by_ := 24) .t1 .t0 .k1 (.inr (.inr ⟨_, Mm.m0⟩)) runUnderlying94 runUnderlying94 sizeOf40 typeInfo40 rfl rfl zeroValue40 rfl ho33 (by simpa [zip_len hz32] using hb34) rfl) rfl fun u31 _ => ?_
    refine .conseq .k0 (q := lst 40 1 u31 (List.zipWith (fun (_ : List UInt8) z => [z]) (s2 ++ ([(r25.data.toList)] : List (List UInt8))) (z3.2 ++ [u27]))) (fun _ hh => by simpa [zip_app hz32] using hh) ?_
    refine .drop .k4 ?_
    refine .opp (P.asg .t0) rfl ?_
    refine .nil ?_
    refine .inn ?_
    refine .then ?_
    refine .reg rfl ?_
    refine .opp (P.bin .g1 .k (.addc (inc_ok (lt_of_get hx11) hl12))) rfl ?_
    refine .drop .k2 ?_
    refine .opp (P.mov .t0) rfl ?_
    refine .nil ?_
    cases hc7
    exact .rdR ((s2 ++ ([(r25.data.toList)] : List (List UInt8)))) ⟨u31, (z3.2 ++ [u27])⟩ hn8 (lt_of_get hx11) (.cons Mm.m0 (.cons Mm.m2 (.cons Mm.m3 (.cons Mm.m1 (.cons Mm.m4 .nil))))) (.of (.cons .k0 .nil)) (.cons Mm.m3 (.cons Mm.m0 (.cons Mm.m5 .nil)))
  · obtain rfl := loopR_end (le_of_not c14) hr9
    have h := dn_on h
    refine .exit ?_
    refine .thx ?_
    refine .thx ?_
    refine .inb ?_
    refine .then ?_
    refine .seq ?_
    refine .reg rfl ?_
    refine .opp (P.mov .t3) rfl ?_
    refine .frz .k0 ?_
    obtain ⟨r35, hr36, h⟩ := bnd_eq h
    refine .opg (G.call call77 (.cons .t0 .nil) (S_hash_Short z3.1 s2 z3.2 r35 hr36) .nil (.cons Mm.m0 (.cons Mm.m2 .nil)) (fun _ _ => rfl) (fun _ _ => rfl) rfl) rfl fun _ _ => ?_
    refine .opp (P.asg .t0) rfl ?_
    refine .nil ?_
    refine .then ?_
    refine .ret ?_
    cases h
    exact .finw () (.r1 rfl (.tmp .g0)) trivial (Ls.of .nil) .nil
attribute [irreducible] ots_closed
noncomputable def ots_Open (a0 : List UInt8) (a1 : List ByteArray) : Option (ByteArray) :=
  Option.bind (slices_ContainsFunc_string_ots_Open_1 a1) fun r1 => thn (if (decide ((a1.length : Int) ≠ 15)) = true then true else r1) fun (y3 : Bool) => if y3 = true then (some ⟨#[]⟩) else (Option.bind (ots_Digits a0) fun r8 => Option.bind (ots_closed a1 r8) fun r11 => some r11)
set_option maxRecDepth 20000 in
set_option maxHeartbeats 1000000 in
theorem S_ots_Open (v00 : Value) (a0 : List UInt8) (v01 : Value) (a1 : List ByteArray) (r : ByteArray) (h : ots_Open a0 a1 = some r) :
    SpecF Try.prog 51 [v00, v01] [] [rows 1 v00 (a0.map (fun x => [B8 x])), rows 1 v01 (a1.map (fun x => [.string x]))] (fun z : Unit => True) (fun z => .string r) (fun z M =>  M) (fun z M =>  M) := by
  refine .of func51 rfl ntmps51 rfl fun w0 D0 G0 => ?_
  unfold ots_Open at h
  refine .seq ?_
  refine .reg rfl ?_
  refine .op0 (OpP.toV (P.asg .k)) rfl ?_
  refine .nil ?_
  refine .then ?_
  refine .seq ?_
  refine .reg rfl ?_
  refine .opp (P.mov .g1) rfl ?_
  obtain ⟨r1, hr2, h⟩ := bnd_eq h
  refine .opg (G.call call63 (.cons .t0 (.cons .f .nil)) (S_slices_ContainsFunc_string_ots_Open_1 v01 a1 r1 hr2) .nil (.cons Mm.m1 .nil) (fun _ _ => rfl) (fun _ _ => rfl) rfl) rfl fun _ _ => ?_
  refine .opp (P.asg .t0) rfl ?_
  refine .nil ?_
  refine .then ?_
  refine .seq ?_
  obtain ⟨y3, hj5, h⟩ := thn_eq h
  refine .cutx (γ := Unit) (E1 := fun z4 => [(13, Bo y3), (0, v00), (1, v01)]) (L1 := fun z4 => []) (R1 := fun z4 => [rows 1 v00 (a0.map (fun x => [B8 x])), rows 1 v01 (a1.map (fun x => [.string x]))]) ?_ (fun z4 => ?_)
  · clear h
    refine .reg rfl ?_
    refine .opp (P.mov .g2) rfl ?_
    refine .op (V.lnr (n := a1.length) .t0 Mm.m1 map_len runUnderlying47) rfl ?_
    refine .opp (P.bin .t0 .k .neq) rfl ?_
    refine .opp (P.mov .t0) rfl ?_
    refine .split .k0 (fun c6 => ?_) (fun c6 => ?_)
    · rw [if_pos c6] at hj5
      refine .gno rfl .g0 rfl rfl ?_
      refine .opp (P.pickT .t0 .k) rfl ?_
      refine .nil ?_
      subst hj5
      exact .stj () (.cons Mm.m0 (.cons Mm.m2 (.cons Mm.m3 .nil))) (.of .nil) (.cons Mm.m0 (.cons Mm.m1 .nil))
    · rw [if_neg (ne_true_of_eq_false c6)] at hj5
      refine .gyes rfl .g0 ?_
      refine .opp (P.mov .t1) rfl ?_
      refine .opp (P.pickF .t1 .t0) rfl ?_
      refine .nil ?_
      subst hj5
      exact .stj () (.cons Mm.m0 (.cons Mm.m1 (.cons Mm.m2 .nil))) (.of .nil) (.cons Mm.m0 (.cons Mm.m1 .nil))
  · clear hj5
    refine .cond .t0 (fun c7 => ?_) (fun c7 => ?_)
    · rw [if_pos c7] at h
      refine .seq ?_
      refine .reg rfl ?_
      refine .opp (P.asg .k) rfl ?_
      refine .nil ?_
      refine .then ?_
      refine .ret ?_
      refine .thr ?_
      cases h
      exact .finw () (.r1 rfl (.tmp .g0)) trivial (Ls.of .nil) .nil
    · rw [if_neg (ne_true_of_eq_false c7)] at h
      refine .skip ?_
      refine .then ?_
      refine .seq ?_
      refine .reg rfl ?_
      refine .opp (P.mov .t1) rfl ?_
      refine .opp (P.mov .t1) rfl ?_
      obtain ⟨r8, hr9, h⟩ := bnd_eq h
      refine .opg (G.call call66 (.cons .t0 .nil) (S_ots_Digits v00 a0 r8 hr9) .nil (.cons Mm.m0 .nil) (fun _ _ => rfl) (fun _ _ => rfl) rfl) rfl fun u10 _ => ?_
      refine .frz .k0 ?_
      obtain ⟨r11, hr12, h⟩ := bnd_eq h
      refine .opg (G.call call65 (.cons .t1 (.cons .t0 .nil)) (S_ots_closed v01 a1 u10 r8 r11 hr12) .nil (.cons Mm.m2 (.cons Mm.m0 .nil)) (fun _ _ => rfl) (fun _ _ => rfl) rfl) rfl fun _ _ => ?_
      refine .opp (P.asg .t0) rfl ?_
      refine .nil ?_
      refine .then ?_
      refine .ret ?_
      cases h
      exact .finw () (.r1 rfl (.tmp .g0)) trivial (Ls.of .nil) .nil
attribute [irreducible] ots_Open
noncomputable def hash_Text_n2 (a0a : List UInt8) (a0b : List UInt8) : Option (ByteArray) :=
  Option.bind (blob_Cat_n2 a0a a0b) fun r1 => Option.bind (hash_Sum r1) fun r4 => some (⟨⟨r4⟩⟩ : ByteArray)
set_option maxRecDepth 20000 in
set_option maxHeartbeats 1000000 in
theorem S_hash_Text_n2 (v00 : Value) (z00a : Value) (a0a : List UInt8) (z00b : Value) (a0b : List UInt8) (r : ByteArray) (h : hash_Text_n2 a0a a0b = some r) :
    SpecF Try.prog 47 [v00] [] [rows 1 v00 [[z00a], [z00b]], rows 1 z00a (a0a.map (fun x => [B8 x])), rows 1 z00b (a0b.map (fun x => [B8 x]))] (fun z : Unit => True) (fun z => .string r) (fun z M =>  M) (fun z M =>  M) := by
  refine .of func47 rfl ntmps47 rfl fun w0 D0 G0 => ?_
  unfold hash_Text_n2 at h
  refine .seq ?_
  refine .reg rfl ?_
  refine .op0 (OpP.toV (P.asg .k)) rfl ?_
  refine .nil ?_
  refine .then ?_
  refine .seq ?_
  refine .reg rfl ?_
  refine .opp (P.mov .t0) rfl ?_
  obtain ⟨r1, hr2, h⟩ := bnd_eq h
  refine .opg (G.call call58 (.cons .t0 .nil) (S_blob_Cat_n2 v00 z00a a0a z00b a0b r1 hr2) .nil (.cons Mm.m0 (.cons Mm.m1 (.cons Mm.m2 .nil))) (fun _ _ => rfl) (fun _ _ => rfl) rfl) rfl fun u3 _ => ?_
  refine .frz .k0 ?_
  obtain ⟨r4, hr5, h⟩ := bnd_eq h
  refine .opg (G.call call59 (.cons .t0 .nil) (S_hash_Sum u3 r1 r4 hr5) .nil (.cons Mm.m0 .nil) (fun _ _ => rfl) (fun _ _ => rfl) rfl) rfl fun u6 _ => ?_
  refine .op (V.b2sl (l := r4) (e := 5) .t0 .k0 (by kernel_rfl) (by kernel_rfl) (by kernel_rfl)) rfl ?_
  refine .opp (P.asg .t0) rfl ?_
  refine .nil ?_
  refine .then ?_
  refine .ret ?_
  cases h
  exact .finw () (.r1 rfl (.tmp .g0)) trivial (Ls.of .nil) .nil
attribute [irreducible] hash_Text_n2
noncomputable def hash_Short_n2 (a0a : List UInt8) (a0b : List UInt8) : Option (ByteArray) :=
  Option.bind (hash_Text_n2 a0a a0b) fun r1 => grd (okS r1.size none (some 8) none) <| some ((r1.extract 0 (8 : Int).toNat))
set_option maxRecDepth 20000 in
set_option maxHeartbeats 1000000 in
theorem S_hash_Short_n2 (v00 : Value) (z00a : Value) (a0a : List UInt8) (z00b : Value) (a0b : List UInt8) (r : ByteArray) (h : hash_Short_n2 a0a a0b = some r) :
    SpecF Try.prog 77 [v00] [] [rows 1 v00 [[z00a], [z00b]], rows 1 z00a (a0a.map (fun x => [B8 x])), rows 1 z00b (a0b.map (fun x => [B8 x]))] (fun z : Unit => True) (fun z => .string r) (fun z M =>  M) (fun z M =>  M) := by
  refine .of func77 rfl ntmps77 rfl fun w0 D0 G0 => ?_
  unfold hash_Short_n2 at h
  refine .seq ?_
  refine .reg rfl ?_
  refine .op0 (OpP.toV (P.asg .k)) rfl ?_
  refine .nil ?_
  refine .then ?_
  refine .seq ?_
  refine .reg rfl ?_
  refine .opp (P.mov .t0) rfl ?_
  obtain ⟨r1, hr2, h⟩ := bnd_eq h
  refine .opg (G.call call47 (.cons .t0 .nil) (S_hash_Text_n2 v00 z00a a0a z00b a0b r1 hr2) .nil (.cons Mm.m0 (.cons Mm.m1 (.cons Mm.m2 .nil))) (fun _ _ => rfl) (fun _ _ => rfl) rfl) rfl fun _ _ => ?_
  obtain ⟨hb3, h⟩ := grd_eq h
  refine .opp (P.slst (li := none) (hj := (some 8)) .t0 .none (.some .k) runUnderlying9 hb3) rfl ?_
  refine .opp (P.asg .t0) rfl ?_
  refine .nil ?_
  refine .then ?_
  refine .ret ?_
  cases h
  exact .finw () (.r1 rfl (.tmp .g0)) trivial (Ls.of .nil) .nil
attribute [irreducible] hash_Short_n2
noncomputable def mss_join (a0 : ByteArray) (a1 : ByteArray) : Option (ByteArray) :=
  grd (a0.size ≤ 140737488355328) <| grd (a1.size ≤ 140737488355328) <| Option.bind (hash_Short_n2 (a0.data.toList) (a1.data.toList)) fun r8 => some r8
set_option maxRecDepth 20000 in
set_option maxHeartbeats 1000000 in
theorem S_mss_join (a0 : ByteArray) (a1 : ByteArray) (r : ByteArray) (h : mss_join a0 a1 = some r) :
    SpecF Try.prog 62 [.string a0, .string a1] [] [] (fun z : Unit => True) (fun z => .string r) (fun z M =>  M) (fun z M =>  M) := by
  refine .of func62 rfl ntmps62 rfl fun w0 D0 G0 => ?_
  unfold mss_join at h
  refine .seq ?_
  refine .reg rfl ?_
  refine .op0 (OpP.toV (P.asg .k)) rfl ?_
  refine .nil ?_
  refine .then ?_
  refine .seq ?_
  refine .reg rfl ?_
  refine .opp (P.mov .t0) rfl ?_
  obtain ⟨hb2, h⟩ := grd_eq h
  refine .opg (G.s2b (e := 5) .t0 (by kernel_rfl) (by kernel_rfl) (by kernel_rfl) hb2 rfl) rfl fun u1 _ => ?_
  refine .opp (P.mov .t1) rfl ?_
  obtain ⟨hb4, h⟩ := grd_eq h
  refine .opg (G.s2b (e := 5) .t0 (by kernel_rfl) (by kernel_rfl) (by kernel_rfl) hb4 rfl) rfl fun u3 _ => ?_
  refine .oner Mm.m1 fun ho6 => ?_
  refine .oner Mm.m0 fun ho7 => ?_
  refine .opg (G.bsln (xs := [[u1], [u3]]) (.cons .t1 (.cons .t0 .nil)) runUnderlying94 sizeOf40 zeroValue40 (fill2 ho6 ho7) rfl rfl rfl rfl rfl) rfl fun u5 _ => ?_
  refine .frz .k0 ?_
  obtain ⟨r8, hr9, h⟩ := bnd_eq h
  refine .opg (G.call call77 (.cons .t0 .nil) (S_hash_Short_n2 u5 u1 (a0.data.toList) u3 (a1.data.toList) r8 hr9) .nil (.cons Mm.m0 (.cons Mm.m2 (.cons Mm.m1 .nil))) (fun _ _ => rfl) (fun _ _ => rfl) rfl) rfl fun _ _ => ?_
  refine .opp (P.asg .t0) rfl ?_
  refine .nil ?_
  refine .then ?_
  refine .ret ?_
  cases h
  exact .finw () (.r1 rfl (.tmp .g0)) trivial (Ls.of .nil) .nil
attribute [irreducible] mss_join
end Go.Sl
