/- Walked code of the program, its pure functions and their contracts. -/
import Derived.Test.YteijfoldbinghaaGreatSlRcd
set_option linter.unusedVariables false
set_option linter.unusedSimpArgs false
namespace Go.Sl
open Go.Proofs Go.Proofs.Tryz
theorem one_3 (x : Int) : oneAll ((fun x => [N x]) x) = true := rfl
noncomputable def slices_ContainsFunc_string_ots_Open_1 (a0 : List ByteArray) : Option (Bool) :=
  Option.bind (slices_IndexFunc_string_ots_Open_1 a0) fun r1 => some (decide (r1 ≥ 0))
set_option maxRecDepth 20000 in
set_option maxHeartbeats 1000000 in
theorem S_slices_ContainsFunc_string_ots_Open_1 (v00 : Value) (a0 : List ByteArray) (r : Bool) (h : slices_ContainsFunc_string_ots_Open_1 a0 = some r) :
    SpecF Tryz.prog 111 [v00, fnv 112 []] [] [rows 1 v00 (a0.map (fun x => [.string x]))] (fun z : Unit => True) (fun z => Bo r) (fun z M =>  M) (fun z M =>  M) := by
  refine .of func111 rfl ntmps111 rfl fun w0 D0 G0 => ?_
  unfold slices_ContainsFunc_string_ots_Open_1 at h
  refine .seq ?_
  refine .reg rfl ?_
  refine .op0 (OpP.toV (P.asg .k)) rfl ?_
  refine .nil ?_
  refine .then ?_
  refine .seq ?_
  refine .reg rfl ?_
  refine .opp (P.mov .t0) rfl ?_
  refine .opp (P.mov .t1) rfl ?_
  obtain ⟨r1, hr2, h⟩ := bnd_eq h
  refine .opg (G.call call122 (.cons .t1 (.cons .t0 .nil)) (S_slices_IndexFunc_string_ots_Open_1 v00 a0 r1 hr2) .nil (.cons Mm.m0 .nil) (fun _ _ => rfl) (fun _ _ => rfl) rfl) rfl fun _ _ => ?_
  refine .opp (P.bin .t0 .k .geq) rfl ?_
  refine .opp (P.asg .t0) rfl ?_
  refine .nil ?_
  refine .then ?_
  refine .ret ?_
  cases h
  exact .finw () (.r1 rfl (.tmp .g0)) trivial (Ls.of .nil) .nil
attribute [irreducible] slices_ContainsFunc_string_ots_Open_1
noncomputable def slices_Backward_int  : Unit :=
  ()
set_option maxRecDepth 20000 in
set_option maxHeartbeats 1000000 in
theorem S_slices_Backward_int (v00 : Value) (hv00 : IsSl v00) (r : Unit) (h : slices_Backward_int  = r) :
    SpecF Tryz.prog 127 [v00] [] [] (fun z : Nat => True) (fun z => fnv 129 [pt z 0]) (fun z M => blk z 23 [v00] ::  M) (fun z M =>  M) := by
  refine .of func127 rfl ntmps127 rfl fun w0 D0 G0 => ?_
  unfold slices_Backward_int at h
  refine .seq ?_
  refine .reg rfl ?_
  refine .opx (X.box (cs := [v00]) .t0 hv00.cells) rfl fun b1 => ?_
  refine .op0 (OpP.toV (P.asg .k)) rfl ?_
  refine .nil ?_
  refine .then ?_
  refine .seq ?_
  refine .reg rfl ?_
  refine .opp (P.mkf (.cons .t0 .nil)) rfl ?_
  refine .opp (P.asg .t0) rfl ?_
  refine .nil ?_
  refine .then ?_
  refine .ret ?_
  subst h
  exact .finw b1 (.r1 rfl (.tmp .g0)) trivial (Ls.of (.cons .k0 .nil)) .nil
attribute [irreducible] slices_Backward_int
noncomputable def ots_spread (a0 : Int) (a1 : Int) : Option ((List Int)) :=
  grd (0 ≤ a1 ∧ a1 * 8 ≤ 140737488355328) <| Option.bind (loopW (fun (s14 : Int × (List Int) × (List Int) × Int) => if (decide (s14.1 ≥ 0)) = true then (Option.bind (at_ s14.2.1 s14.1) fun (x27 : Int) => Option.bind (at_ s14.2.1 s14.1) fun (x36 : Int) => some (.nx ((IntKind.i64.wrap (s14.1 - 1), (s14.2.1.set (s14.1).toNat (bandK .i64 s14.2.2.2 3 : Int)), (s14.2.1.set (s14.1).toNat (bandK .i64 s14.2.2.2 3 : Int)), shrK .i64 s14.2.2.2 2)))) else (some (.br (s14.1, s14.2.1, s14.2.1, s14.2.2.2)))) ((IntKind.i64.wrap (((List.replicate (a1).toNat (0 : Int)).length : Int) - 1), (List.replicate (a1).toNat (0 : Int)), (List.replicate (a1).toNat (0 : Int)), a0))) fun o16 => Lo.on o16 fun (s14 : Int × (List Int) × (List Int) × Int) => some s14.2.1
set_option maxRecDepth 20000 in
set_option maxHeartbeats 1000000 in
theorem S_ots_spread (a0 : Int) (a1 : Int) (r : (List Int)) (h : ots_spread a0 a1 = some r) :
    SpecF Tryz.prog 124 [N a0, N a1] [] [] (fun z : Value => True) (fun z => z) (fun z M => lst 3 1 z (r.map (fun x => [N x])) ::  M) (fun z M =>  M) := by
  refine .of func124 rfl ntmps124 rfl fun w0 D0 G0 => ?_
  unfold ots_spread at h
  refine .seq ?_
  refine .reg rfl ?_
  refine .opx (X.box (cs := [N a0]) .t0 rfl) rfl fun b1 => ?_
  refine .op0 (OpP.toV (P.asg .k)) rfl ?_
  refine .nil ?_
  refine .then ?_
  refine .seq ?_
  refine .reg rfl ?_
  refine .opp (P.mov .t1) rfl ?_
  obtain ⟨hb3, h⟩ := grd_eq h
  refine .opg (G.mks (by_ := 8) (cs := [N 0]) .g0 .t0 runUnderlying23 sizeOf3 typeInfo3 rfl zeroValue3 rfl rfl rfl rfl hb3.1 hb3.2 rfl) rfl fun u2 _ => ?_
  refine .conseq .k0 (q := lst 3 1 u2 ((List.replicate (a1).toNat (0 : Int)).map (fun x => [N x]))) (fun _ hh => by simpa [List.map_replicate] using hh) ?_
  refine .opx (X.alc (cs := [nilSl]) zeroValue23 rfl) rfl fun b4 => ?_
  refine .onel .k1 fun ho5 => ?_
  refine .opg (G.str .t1 .g0 .k0 (.mk1 (cs' := [u2]) sizeOf23 rfl ho5 rfl rfl)) rfl fun _ _ => ?_
  refine .nil ?_
  refine .then ?_
  refine .seq ?_
  refine .seq ?_
  refine .reg rfl ?_
  refine .op (V.ld (v := u2) .g0 .k0 (.one isAgg23 rfl)) rfl ?_
  refine .cell .k1 fun hv6 => ?_
  refine .opg (G.call call127 (.cons .t0 .nil) (S_slices_Backward_int u2 hv6 _ rfl) .nil .nil (fun _ _ => rfl) (fun _ _ => rfl) rfl) rfl fun b7 _ => ?_
  refine .nil ?_
  refine .then ?_
  refine .block ?_
  refine .rangeF rfl .t0 call129 func129 rfl ntmps129 rfl fun a8 O9 D10 l11 ha12 hO13 => ?_
  refine .seq ?_
  refine .reg rfl ?_
  refine .op (V.ld (v := u2) .g1 .k2 (.one isAgg23 rfl)) rfl ?_
  refine .op (V.lnl (n := (List.replicate (a1).toNat (0 : Int)).length) .t0 .k4 map_len runUnderlying23) rfl ?_
  refine .opp (P.bin .t0 .k .sub) rfl ?_
  refine .opp (P.asg .t0) rfl ?_
  refine .nil ?_
  refine .then ?_
  refine .block ?_
  obtain ⟨o16, ho17, h⟩ := bnd_eq h
  refine .loopW (γ := Unit) (fun (s14 : Int × (List Int) × (List Int) × Int) z15 => [(3, N s14.1), (0, yv l11), (1, pt b7 0)]) (fun (s14 : Int × (List Int) × (List Int) × Int) z15 => [blk b7 23 [u2], blk b4 23 [u2], blk b1 3 [N s14.2.2.2], lst 3 1 u2 (s14.2.1.map (fun x => [N x])), obj l11 (O9 .ready none), obj D10 (.deferred (some []))]) (fun (s14 : Int × (List Int) × (List Int) × Int) z15 => []) () ho17 (.cons Mm.m0 (.cons Mm.m1 (.cons Mm.m2 .nil))) (.of (.cons .k2 (.cons .k2 (.cons .k3 (.cons .k2 (.cons .k0 (.cons .k0 .nil))))))) .nil (fun n22 s14 z15 hr20 => ?_)
  obtain ⟨ct21, hc18, hn19⟩ := loopK_at hr20
  refine .seq ?_
  refine .seq ?_
  refine .reg rfl ?_
  refine .opp (P.mov .g0) rfl ?_
  refine .opp (P.bin .t0 .k .geq) rfl ?_
  refine .nil ?_
  refine .then ?_
  refine .cond .t0 (fun c23 => ?_) (fun c23 => ?_)
  · rw [if_pos c23] at hc18
    refine .skip ?_
    refine .then ?_
    refine .seq ?_
    refine .block ?_
    refine .seq ?_
    refine .regY 6 rfl ?_
    refine .opp (P.mov .g1) rfl ?_
    refine .opp (P.mov .g1) rfl ?_
    refine .op (V.ld (v := u2) .g4 .k0 (.one isAgg23 rfl)) rfl ?_
    refine .opp (P.mov .g3) rfl ?_
    obtain ⟨x27, hx28, hc18⟩ := bnd_eq hc18
    obtain ⟨i29, hi30, hx28⟩ := at_eq hx28
    have hi30_ : (s14.1).toNat = i29 := by rw [hi30]; rfl
    refine .ixql .k3 (map_get hx28) fun p24 q25 hq26 => ?_
    refine .opp (P.ixi (i := i29) .t0 hi30 .t0 hq26 runUnderlying23 sizeOf3) rfl ?_
    refine .op (V.ldxl0 (u := N x27) .t0 hq26 .k3 (map_get hx28) (.one isAgg3 rfl)) rfl ?_
    refine .nil ?_
    refine .then ?_
    refine .yield (ps := [11, 12]) .t2 (.cons .t1 (.cons .t0 .nil)) hO13 .k4 rfl rfl (by decide) fun a31 ha32 => ?_
    refine .reg rfl ?_
    refine .opp (P.asg .t0) rfl ?_
    refine .nil ?_
    refine .then ?_
    refine .bg rfl hO13 .k0 ?_
    refine .block ?_
    refine .seq ?_
    refine .reg rfl ?_
    refine .op (V.ld (v := u2) .t2 .k2 (.one isAgg23 rfl)) rfl ?_
    refine .opp (P.mov .t1) rfl ?_
    refine .op (V.ld (v := N s14.2.2.2) .g3 .k3 (.one isAgg3 rfl)) rfl ?_
    refine .opp (P.bin .t0 .k .and) rfl ?_
    obtain ⟨x36, hx37, hc18⟩ := bnd_eq hc18
    obtain ⟨i38, hi39, hx37⟩ := at_eq hx37
    have hi39_ : (s14.1).toNat = i38 := by rw [hi39]; rfl
    refine .ixql .k4 (map_get hx37) fun p33 q34 hq35 => ?_
    refine .opp (P.ixi (i := i38) .t1 hi39 .t1 hq35 runUnderlying23 sizeOf3) rfl ?_
    refine .opg (G.stx (off := q34) (k := 0) (cs' := [N (bandK .i64 s14.2.2.2 3)]) .t1 .t0 hq35 .k4 (map_get hx37) (.mk sizeOf3 rfl rfl rfl rfl)) rfl fun _ _ => ?_
    refine .conseq .k0 (q := lst 3 1 u2 ((s14.2.1.set (s14.1).toNat (bandK .i64 s14.2.2.2 3 : Int)).map (fun x => [N x]))) (fun _ h_ => by rw [hi39_]; simpa [List.map_set] using h_) ?_
    refine .nil ?_
    refine .then ?_
    refine .reg rfl ?_
    refine .op (V.ld (v := N s14.2.2.2) .g1 .k4 (.one isAgg3 rfl)) rfl ?_
    refine .opp (P.bin .t0 .k (.shr (by decide))) rfl ?_
    refine .opg (G.str .t0 .t1 .k4 (.mk (cs' := [N (shrK .i64 s14.2.2.2 2)]) sizeOf3 rfl rfl rfl rfl)) rfl fun _ _ => ?_
    refine .nil ?_
    refine .inn ?_
    refine .rnorm rfl ⟨rfl, rfl, rfl⟩ ha32 hO13 .k2 rfl ?_
    refine .inL rfl ?_
    refine .opp (P.not .t0) rfl ?_
    refine .nil ?_
    refine .then ?_
    refine .condF .t0 ?_
    refine .skip ?_
    refine .inn ?_
    refine .then ?_
    refine .reg rfl ?_
    refine .opp (P.mov .g0) rfl ?_
    refine .opp (P.bin .t0 .k .sub) rfl ?_
    refine .drop .k1 ?_
    refine .opp (P.asg .t0) rfl ?_
    refine .nil ?_
    cases hc18
    obtain ⟨m40, hm41, hn19⟩ := hn19
    exact .rdW ((IntKind.i64.wrap (s14.1 - 1), (s14.2.1.set (s14.1).toNat (bandK .i64 s14.2.2.2 3 : Int)), (s14.2.1.set (s14.1).toNat (bandK .i64 s14.2.2.2 3 : Int)), shrK .i64 s14.2.2.2 2)) () hm41 hn19 (.cons Mm.m0 (.cons Mm.m1 (.cons Mm.m2 .nil))) (.of (.cons .k3 (.cons .k3 (.cons .k1 (.cons .k1 (.cons .k0 (.cons .k0 .nil))))))) .nil
  · rw [if_neg (ne_true_of_eq_false c23)] at hc18
    refine .exit ?_
    refine .thx ?_
    cases hc18
    refine .told (γ := Unit) h hn19 (fun (s14 : Int × (List Int) × (List Int) × Int) _ => [(3, N s14.1), (0, yv l11), (1, pt b7 0)]) (fun (s14 : Int × (List Int) × (List Int) × Int) _ => [blk b7 23 [u2], blk b4 23 [u2], blk b1 3 [N s14.2.2.2], lst 3 1 u2 (s14.2.1.map (fun x => [N x])), obj l11 (O9 .ready none), obj D10 (.deferred (some []))]) (fun (s14 : Int × (List Int) × (List Int) × Int) _ => []) () (.cons Mm.m0 (.cons Mm.m1 (.cons Mm.m2 .nil))) (.of (.cons .k0 (.cons .k0 (.cons .k0 (.cons .k0 (.cons .k0 (.cons .k0 .nil))))))) .nil (fun s14 _ h' => ?_)
    replace h := h'
    refine .thx ?_
    refine .inb ?_
    refine .rfinn ha12 hO13 .k4 rfl ?_
    refine .inn ?_
    refine .then ?_
    refine .seq ?_
    refine .reg rfl ?_
    refine .op (V.ld (v := u2) .t0 .k1 (.one isAgg23 rfl)) rfl ?_
    refine .opp (P.asg .t0) rfl ?_
    refine .nil ?_
    refine .then ?_
    refine .ret ?_
    cases h
    exact .finm u2 .k4 (.r1 rfl (.tmp .g0)) trivial (Ls.of (.cons .k3 .nil)) .nil
attribute [irreducible] ots_spread
noncomputable def ots_Digits (a0 : List UInt8) : Option ((List Int)) :=
  Option.bind (hash_Sum a0) fun r1 => grd (0 ≤ (3 : Int) ∧ (3 : Int) ≤ r1.length) <| Option.bind (blob_Int (r1.take (3 : Int).toNat)) fun r6 => Option.bind (ots_spread r6 12) fun r8 => Option.bind (loopR (fun (i11 : Nat) (e14 : Int) (s12 : Int) => some (.nx (IntKind.i64.wrap (s12 - e14)))) 0 r8 36) fun o15 => Lo.on o15 fun (s12 : Int) => Option.bind (ots_spread s12 3) fun r28 => grd ((r8.length + r28.length) * 8 ≤ 140737488355328) <| some (r8 ++ r28)
set_option maxRecDepth 20000 in
set_option maxHeartbeats 1000000 in
theorem S_ots_Digits (v00 : Value) (a0 : List UInt8) (r : (List Int)) (h : ots_Digits a0 = some r) :
    SpecF Tryz.prog 114 [v00] [] [rows 1 v00 (a0.map (fun x => [B8 x]))] (fun z : Value => True) (fun z => z) (fun z M => lst 3 1 z (r.map (fun x => [N x])) ::  M) (fun z M =>  M) := by
  refine .of func114 rfl ntmps114 rfl fun w0 D0 G0 => ?_
  unfold ots_Digits at h
  refine .seq ?_
  refine .reg rfl ?_
  refine .op0 (OpP.toV (P.asg .k)) rfl ?_
  refine .nil ?_
  refine .then ?_
  refine .seq ?_
  refine .reg rfl ?_
  refine .opp (P.mov .t0) rfl ?_
  obtain ⟨r1, hr2, h⟩ := bnd_eq h
  refine .opg (G.call call92 (.cons .t0 .nil) (S_hash_Sum v00 a0 r1 hr2) .nil (.cons Mm.m0 .nil) (fun _ _ => rfl) (fun _ _ => rfl) rfl) rfl fun u3 _ => ?_
  obtain ⟨hb5, h⟩ := grd_eq h
  refine .opg (G.sll (m := 3) .t0 .k .k0 runUnderlying131 sizeOf5 hb5.1 (by simpa using hb5.2) rfl) rfl fun u4 _ => ?_
  refine .conseq .k0 (q := lst 5 1 u4 ((r1.take (3 : Int).toNat).map (fun x => [B8 x]))) (fun _ hh => by simpa using hh) ?_
  refine .frz .k0 ?_
  obtain ⟨r6, hr7, h⟩ := bnd_eq h
  refine .opg (G.call call117 (.cons .t0 .nil) (S_blob_Int u4 (r1.take (3 : Int).toNat) r6 hr7) .nil (.cons Mm.m0 .nil) (fun _ _ => rfl) (fun _ _ => rfl) rfl) rfl fun _ _ => ?_
  obtain ⟨r8, hr9, h⟩ := bnd_eq h
  refine .opg (G.call call124 (.cons .t0 (.cons .k .nil)) (S_ots_spread r6 12 r8 hr9) .nil .nil (fun _ _ => rfl) (fun _ _ => rfl) rfl) rfl fun u10 _ => ?_
  refine .opp (P.asg .t0) rfl ?_
  refine .nil ?_
  refine .then ?_
  refine .seq ?_
  refine .reg rfl ?_
  refine .opp (P.asg .k) rfl ?_
  refine .nil ?_
  refine .then ?_
  refine .seq ?_
  refine .seq ?_
  refine .reg rfl ?_
  refine .opp (P.mov .g1) rfl ?_
  refine .op (V.lnl (n := r8.length) .g0 .k0 map_len runUnderlying23) rfl ?_
  refine .opp (P.mov .k) rfl ?_
  refine .nil ?_
  refine .then ?_
  refine .block ?_
  obtain ⟨o15, ho16, h⟩ := bnd_eq h
  refine .lenql .k0 fun hl22 => ?_
  rw [map_len] at hl22
  refine .loopR (γ := Unit) (fun i11 (s12 : Int) z13 => [(14, N (i11 : Int)), (13, N (r8.length : Int)), (12, u10), (4, N s12), (3, u10)]) (fun (s12 : Int) z13 => [lst 3 1 u10 (r8.map (fun x => [N x]))]) (fun (s12 : Int) z13 => [rows 1 v00 (a0.map (fun x => [B8 x]))]) () ho16 (.cons Mm.m0 (.cons Mm.m1 (.cons Mm.m2 (.cons Mm.m3 (.cons Mm.m4 .nil))))) (.of (.cons .k0 .nil)) (.cons Mm.m1 .nil) (fun i11 s12 z13 hi23 hr19 => ?_)
  refine .seq ?_
  refine .reg rfl ?_
  refine .opp (P.bin (v := Bo (decide ((i11 : Int) < (r8.length : Nat)))) .g0 .g1 .lss) rfl ?_
  refine .nil ?_
  refine .then ?_
  refine .seq ?_
  refine .cond .t0 (fun c24 => ?_) (fun c24 => ?_)
  · obtain ⟨e14, hx21⟩ := get_of c24
    obtain ⟨ct20, hc17, hn18⟩ := loopR_at hx21 hr19
    refine .skip ?_
    refine .then ?_
    refine .seq ?_
    refine .block ?_
    refine .seq ?_
    refine .reg rfl ?_
    refine .ixql .k0 (map_get hx21) fun p25 q26 hq27 => ?_
    refine .opp (P.ixi (i := i11) .g0 rfl .g2 hq27 runUnderlying23 sizeOf3) rfl ?_
    refine .op (V.ldxl0 (u := N e14) .t0 hq27 .k0 (map_get hx21) (.one isAgg3 rfl)) rfl ?_
    refine .opp (P.asg .t0) rfl ?_
    refine .nil ?_
    refine .then ?_
    refine .reg rfl ?_
    refine .opp (P.mov .g4) rfl ?_
    refine .opp (P.mov .t1) rfl ?_
    refine .opp (P.bin .t1 .t0 .sub) rfl ?_
    refine .drop .k4 ?_
    refine .opp (P.asg .t0) rfl ?_
    refine .nil ?_
    refine .inn ?_
    refine .then ?_
    refine .reg rfl ?_
    refine .opp (P.bin .g1 .k (.addc (inc_ok (lt_of_get hx21) hl22))) rfl ?_
    refine .drop .k2 ?_
    refine .opp (P.mov .t0) rfl ?_
    refine .nil ?_
    cases hc17
    exact .rdR (IntKind.i64.wrap (s12 - e14)) () hn18 (lt_of_get hx21) (.cons Mm.m0 (.cons Mm.m2 (.cons Mm.m3 (.cons Mm.m1 (.cons Mm.m4 .nil))))) (.of (.cons .k0 .nil)) (.cons Mm.m0 .nil)
  · obtain rfl := loopR_end (le_of_not c24) hr19
    have h := dn_on h
    refine .exit ?_
    refine .thx ?_
    refine .thx ?_
    refine .inb ?_
    refine .then ?_
    refine .seq ?_
    refine .reg rfl ?_
    refine .opp (P.mov .t4) rfl ?_
    refine .opp (P.mov .t4) rfl ?_
    obtain ⟨r28, hr29, h⟩ := bnd_eq h
    refine .opg (G.call call124 (.cons .t0 (.cons .k .nil)) (S_ots_spread s12 3 r28 hr29) .nil .nil (fun _ _ => rfl) (fun _ _ => rfl) rfl) rfl fun u30 _ => ?_
    obtain ⟨hb32, h⟩ := grd_eq h
    refine .opg (G.app (by_ := 8) .t1 .t0 .k1 (.inr (.inr ⟨_, Mm.m0⟩)) runUnderlying23 runUnderlying23 sizeOf3 typeInfo3 rfl rfl zeroValue3 rfl (one_map one_3 _) (by simpa using hb32) rfl) rfl fun u31 _ => ?_
    refine .conseq .k0 (q := lst 3 1 u31 ((r8 ++ r28).map (fun x => [N x]))) (fun _ hh => by simpa [List.map_append] using hh) ?_
    refine .opp (P.asg .t0) rfl ?_
    refine .nil ?_
    refine .then ?_
    refine .ret ?_
    cases h
    exact .finw u31 (.r1 rfl (.tmp .g0)) trivial (Ls.of (.cons .k0 .nil)) .nil
attribute [irreducible] ots_Digits
noncomputable def hash_Short_n1 (a0a : List UInt8) : Option (ByteArray) :=
  Option.bind (hash_Text_n1 a0a) fun r1 => grd (okS r1.size none (some 8) none) <| some ((r1.extract 0 (8 : Int).toNat))
set_option maxRecDepth 20000 in
set_option maxHeartbeats 1000000 in
theorem S_hash_Short_n1 (v00 : Value) (z00a : Value) (a0a : List UInt8) (r : ByteArray) (h : hash_Short_n1 a0a = some r) :
    SpecF Tryz.prog 121 [v00] [] [rows 1 v00 [[z00a]], rows 1 z00a (a0a.map (fun x => [B8 x]))] (fun z : Unit => True) (fun z => .string r) (fun z M =>  M) (fun z M =>  M) := by
  refine .of func121 rfl ntmps121 rfl fun w0 D0 G0 => ?_
  unfold hash_Short_n1 at h
  refine .seq ?_
  refine .reg rfl ?_
  refine .op0 (OpP.toV (P.asg .k)) rfl ?_
  refine .nil ?_
  refine .then ?_
  refine .seq ?_
  refine .reg rfl ?_
  refine .opp (P.mov .t0) rfl ?_
  obtain ⟨r1, hr2, h⟩ := bnd_eq h
  refine .opg (G.call call83 (.cons .t0 .nil) (S_hash_Text_n1 v00 z00a a0a r1 hr2) .nil (.cons Mm.m0 (.cons Mm.m1 .nil)) (fun _ _ => rfl) (fun _ _ => rfl) rfl) rfl fun _ _ => ?_
  obtain ⟨hb3, h⟩ := grd_eq h
  refine .opp (P.slst (li := none) (hj := (some 8)) .t0 .none (.some .k) runUnderlying9 hb3) rfl ?_
  refine .opp (P.asg .t0) rfl ?_
  refine .nil ?_
  refine .then ?_
  refine .ret ?_
  cases h
  exact .finw () (.r1 rfl (.tmp .g0)) trivial (Ls.of .nil) .nil
attribute [irreducible] hash_Short_n1
noncomputable def ots_Walk (a0 : ByteArray) (a1 : Int) : Option (ByteArray) :=
  Option.bind (loopW (fun (s1 : Int × ByteArray) => if (decide (s1.1 < (if 3 < (if 0 > a1 then 0 else a1) then 3 else if 0 > a1 then 0 else a1))) = true then (grd (s1.2.size ≤ 140737488355328) <| Option.bind (hash_Short_n1 (s1.2.data.toList)) fun r15 => some (.nx ((IntKind.i64.wrap (s1.1 + 1), r15)))) else (some (.br (s1.1, s1.2)))) (0, a0)) fun o3 => Lo.on o3 fun (s1 : Int × ByteArray) => some s1.2
set_option maxRecDepth 20000 in
set_option maxHeartbeats 1000000 in
theorem S_ots_Walk (a0 : ByteArray) (a1 : Int) (r : ByteArray) (h : ots_Walk a0 a1 = some r) :
    SpecF Tryz.prog 123 [.string a0, N a1] [] [] (fun z : Unit => True) (fun z => .string r) (fun z M =>  M) (fun z M =>  M) := by
  refine .of func123 rfl ntmps123 rfl fun w0 D0 G0 => ?_
  unfold ots_Walk at h
  refine .seq ?_
  refine .reg rfl ?_
  refine .op0 (OpP.toV (P.asg .k)) rfl ?_
  refine .nil ?_
  refine .then ?_
  refine .seq ?_
  refine .seq ?_
  refine .reg rfl ?_
  refine .opp (P.mov .t1) rfl ?_
  refine .opp (P.max2 .t0 .k) rfl ?_
  refine .opp (P.min2 .t0 .k) rfl ?_
  refine .opp (P.mov .k) rfl ?_
  refine .nil ?_
  refine .then ?_
  refine .block ?_
  obtain ⟨o3, ho4, h⟩ := bnd_eq h
  refine .loopW (γ := Unit) (fun (s1 : Int × ByteArray) z2 => [(8, N s1.1), (7, N (if 3 < (if 0 > a1 then 0 else a1) then 3 else if 0 > a1 then 0 else a1)), (0, .string s1.2)]) (fun (s1 : Int × ByteArray) z2 => []) (fun (s1 : Int × ByteArray) z2 => []) () ho4 (.cons Mm.m0 (.cons Mm.m1 (.cons Mm.m2 .nil))) (.of .nil) .nil (fun n9 s1 z2 hr7 => ?_)
  obtain ⟨ct8, hc5, hn6⟩ := loopK_at hr7
  refine .seq ?_
  refine .reg rfl ?_
  refine .opp (P.bin .g0 .g1 .lss) rfl ?_
  refine .nil ?_
  refine .then ?_
  refine .seq ?_
  refine .cond .t0 (fun c10 => ?_) (fun c10 => ?_)
  · rw [if_pos c10] at hc5
    refine .skip ?_
    refine .then ?_
    refine .seq ?_
    refine .block ?_
    refine .reg rfl ?_
    refine .opp (P.mov .g2) rfl ?_
    obtain ⟨hb12, hc5⟩ := grd_eq hc5
    refine .opg (G.s2b (e := 5) .t0 (by kernel_rfl) (by kernel_rfl) (by kernel_rfl) hb12 rfl) rfl fun u11 _ => ?_
    refine .oner Mm.m0 fun ho14 => ?_
    refine .opg (G.bsl (cs := [u11]) .t0 runUnderlying146 sizeOf131 zeroValue131 (cells1 ho14) rfl rfl rfl rfl) rfl fun u13 _ => ?_
    refine .frz .k0 ?_
    obtain ⟨r15, hr16, hc5⟩ := bnd_eq hc5
    refine .opg (G.call call121 (.cons .t0 .nil) (S_hash_Short_n1 u13 u11 (s1.2.data.toList) r15 hr16) .nil (.cons Mm.m0 (.cons Mm.m1 .nil)) (fun _ _ => rfl) (fun _ _ => rfl) rfl) rfl fun _ _ => ?_
    refine .drop .k3 ?_
    refine .opp (P.asg .t0) rfl ?_
    refine .nil ?_
    refine .inn ?_
    refine .then ?_
    refine .reg rfl ?_
    refine .opp (P.bin .g1 .k .add) rfl ?_
    refine .drop .k2 ?_
    refine .opp (P.mov .t0) rfl ?_
    refine .nil ?_
    cases hc5
    obtain ⟨m17, hm18, hn6⟩ := hn6
    exact .rdW ((IntKind.i64.wrap (s1.1 + 1), r15)) () hm18 hn6 (.cons Mm.m0 (.cons Mm.m2 (.cons Mm.m1 .nil))) (.of .nil) .nil
  · rw [if_neg (ne_true_of_eq_false c10)] at hc5
    refine .exit ?_
    refine .thx ?_
    cases hc5
    refine .told (γ := Unit) h hn6 (fun (s1 : Int × ByteArray) _ => [(8, N s1.1), (7, N (if 3 < (if 0 > a1 then 0 else a1) then 3 else if 0 > a1 then 0 else a1)), (0, .string s1.2)]) (fun (s1 : Int × ByteArray) _ => []) (fun (s1 : Int × ByteArray) _ => []) () (.cons Mm.m0 (.cons Mm.m1 (.cons Mm.m2 .nil))) (.of .nil) .nil (fun s1 _ h' => ?_)
    replace h := h'
    refine .thx ?_
    refine .inb ?_
    refine .then ?_
    refine .seq ?_
    refine .reg rfl ?_
    refine .opp (P.mov .t2) rfl ?_
    refine .opp (P.asg .t0) rfl ?_
    refine .nil ?_
    refine .then ?_
    refine .ret ?_
    cases h
    exact .finw () (.r1 rfl (.tmp .g0)) trivial (Ls.of .nil) .nil
attribute [irreducible] ots_Walk
noncomputable def slices_Concat_byte (a0 : List (List UInt8)) : Option ((List UInt8)) :=
  Option.bind (loopR (fun (i3 : Nat) (e6 : List UInt8) (s4 : Int) => if (decide ((IntKind.i64.wrap (s4 + (e6.length : Int))) < 0)) = true then none else (some (.nx (IntKind.i64.wrap (s4 + (e6.length : Int)))))) 0 a0 0) fun o7 => Lo.on o7 fun (s4 : Int) => Option.bind (slices_Grow_byte_nil s4) fun r23 => Option.bind (loopR (fun (i28 : Nat) (e31 : List UInt8) (s29 : (List UInt8)) => grd ((s29.length + e31.length) * 1 ≤ 140737488355328) <| some (.nx (s29 ++ e31))) 0 a0 r23) fun o32 => Lo.on o32 fun (s29 : (List UInt8)) => some s29
set_option maxRecDepth 20000 in
set_option maxHeartbeats 1000000 in
theorem S_slices_Concat_byte (v00 : Value) (a0 : List (List UInt8)) (zl00 : List Value) (r : (List UInt8)) (h : slices_Concat_byte a0 = some r) :
    SpecF Tryz.prog 100 [v00] [] [rows 1 v00 (List.zipWith (fun (_ : List UInt8) z => [z]) a0 zl00), gz (fun (x : List UInt8) z => rows 1 z (x.map (fun x => [B8 x]))) a0 zl00] (fun z : Value => True) (fun z => z) (fun z M => lst 5 1 z (r.map (fun x => [B8 x])) ::  M) (fun z M =>  M) := by
  refine .of func100 rfl ntmps100 rfl fun w0 D0 G0 => ?_
  unfold slices_Concat_byte at h
  refine .seq ?_
  refine .reg rfl ?_
  refine .op0 (OpP.toV (P.asg .k)) rfl ?_
  refine .nil ?_
  refine .then ?_
  refine .seq ?_
  refine .reg rfl ?_
  refine .opp (P.asg .k) rfl ?_
  refine .nil ?_
  refine .then ?_
  refine .seq ?_
  refine .seq ?_
  refine .reg rfl ?_
  refine .opp (P.mov .g1) rfl ?_
  refine .gzl Mm.m1 fun hz1 => ?_
  refine .op (V.lnr (n := a0.length) .g0 Mm.m0 (zip_len hz1) runUnderlying146) rfl ?_
  refine .opp (P.mov .k) rfl ?_
  refine .nil ?_
  refine .then ?_
  refine .block ?_
  obtain ⟨o7, ho8, h⟩ := bnd_eq h
  refine .gzl Mm.m1 fun hz17 => ?_
  refine .lenq Mm.m0 fun hl14 => ?_
  rw [zip_len hz17] at hl14
  refine .loopR (γ := Unit) (fun i3 (s4 : Int) z5 => [(11, N (i3 : Int)), (10, N (a0.length : Int)), (9, v00), (3, N s4), (0, v00)]) (fun (s4 : Int) z5 => []) (fun (s4 : Int) z5 => [gz (fun (x : List UInt8) z => rows 1 z (x.map (fun x => [B8 x]))) a0 zl00, rows 1 v00 (List.zipWith (fun (_ : List UInt8) z => [z]) a0 zl00)]) () ho8 (.cons Mm.m0 (.cons Mm.m1 (.cons Mm.m2 (.cons Mm.m3 (.cons Mm.m4 .nil))))) (.of .nil) (.cons Mm.m1 (.cons Mm.m0 .nil)) (fun i3 s4 z5 hi15 hr11 => ?_)
  refine .seq ?_
  refine .reg rfl ?_
  refine .opp (P.bin (v := Bo (decide ((i3 : Int) < (a0.length : Nat)))) .g0 .g1 .lss) rfl ?_
  refine .nil ?_
  refine .then ?_
  refine .seq ?_
  refine .cond .t0 (fun c16 => ?_) (fun c16 => ?_)
  · obtain ⟨e6, hx13⟩ := get_of c16
    obtain ⟨ct12, hc9, hn10⟩ := loopR_at hx13 hr11
    refine .gzx (D := (fun (_ : List UInt8) z => [z])) (q := fun z_ => rows 1 z_ (e6.map (fun x => [B8 x]))) Mm.m0 hx13 (fun _ => rfl) fun u2 _ hx18 => ?_
    refine .skip ?_
    refine .then ?_
    refine .seq ?_
    refine .block ?_
    refine .seq ?_
    refine .reg rfl ?_
    refine .ixq Mm.m2 hx18 fun p19 q20 hq21 => ?_
    refine .opp (P.ixi (i := i3) .g0 rfl .g2 hq21 runUnderlying146 sizeOf131) rfl ?_
    refine .op (V.ldx0 (u := u2) .t0 hq21 Mm.m2 hx18 (.one isAgg131 rfl)) rfl ?_
    refine .opp (P.asg .t0) rfl ?_
    refine .nil ?_
    refine .then ?_
    refine .seq ?_
    refine .reg rfl ?_
    refine .opp (P.mov .g4) rfl ?_
    refine .opp (P.mov .t1) rfl ?_
    refine .op (V.lnr (n := e6.length) .t0 Mm.m0 map_len runUnderlying131) rfl ?_
    refine .opp (P.bin .t1 .t0 .add) rfl ?_
    refine .drop .k4 ?_
    refine .opp (P.asg .t0) rfl ?_
    refine .nil ?_
    refine .then ?_
    refine .seq ?_
    refine .reg rfl ?_
    refine .opp (P.mov .g0) rfl ?_
    refine .opp (P.bin .t0 .k .lss) rfl ?_
    refine .nil ?_
    refine .then ?_
    refine .cond .t0 (fun c22 => ?_) (fun c22 => ?_)
    · rw [if_pos c22] at hc9
      refine .reg rfl ?_
      cases hc9
    · rw [if_neg (ne_true_of_eq_false c22)] at hc9
      refine .skip ?_
      refine .inn ?_
      refine .then ?_
      refine .reg rfl ?_
      refine .opp (P.bin .g1 .k (.addc (inc_ok (lt_of_get hx13) hl14))) rfl ?_
      refine .drop .k2 ?_
      refine .opp (P.mov .t0) rfl ?_
      refine .nil ?_
      cases hc9
      exact .rdR (IntKind.i64.wrap (s4 + (e6.length : Int))) () hn10 (lt_of_get hx13) (.cons Mm.m0 (.cons Mm.m2 (.cons Mm.m3 (.cons Mm.m1 (.cons Mm.m4 .nil))))) (.of .nil) (.cons Mm.m1 (.cons Mm.m2 .nil))
  · obtain rfl := loopR_end (le_of_not c16) hr11
    have h := dn_on h
    refine .exit ?_
    refine .thx ?_
    refine .thx ?_
    refine .inb ?_
    refine .then ?_
    refine .seq ?_
    refine .reg rfl ?_
    refine .opp (P.mov .t3) rfl ?_
    obtain ⟨r23, hr24, h⟩ := bnd_eq h
    refine .opg (G.call call115 (.cons .k (.cons .t0 .nil)) (S_slices_Grow_byte_nil s4 r23 hr24) .nil .nil (fun _ _ => rfl) (fun _ _ => rfl) rfl) rfl fun u25 _ => ?_
    refine .opp (P.asg .t0) rfl ?_
    refine .nil ?_
    refine .then ?_
    refine .seq ?_
    refine .seq ?_
    refine .reg rfl ?_
    refine .opp (P.mov .t4) rfl ?_
    refine .gzl Mm.m0 fun hz26 => ?_
    refine .op (V.lnr (n := a0.length) .g0 Mm.m1 (zip_len hz26) runUnderlying146) rfl ?_
    refine .opp (P.mov .k) rfl ?_
    refine .nil ?_
    refine .then ?_
    refine .block ?_
    obtain ⟨o32, ho33, h⟩ := bnd_eq h
    refine .gzl Mm.m0 fun hz42 => ?_
    refine .lenq Mm.m1 fun hl39 => ?_
    rw [zip_len hz42] at hl39
    refine .loopR (γ := Value) (fun i28 (s29 : (List UInt8)) z30 => [(27, N (i28 : Int)), (26, N (a0.length : Int)), (25, v00), (6, z30)]) (fun (s29 : (List UInt8)) z30 => [lst 5 1 z30 (s29.map (fun x => [B8 x]))]) (fun (s29 : (List UInt8)) z30 => [gz (fun (x : List UInt8) z => rows 1 z (x.map (fun x => [B8 x]))) a0 zl00, rows 1 v00 (List.zipWith (fun (_ : List UInt8) z => [z]) a0 zl00)]) u25 ho33 (.cons Mm.m0 (.cons Mm.m1 (.cons Mm.m2 (.cons Mm.m3 .nil)))) (.of (.cons .k0 .nil)) (.cons Mm.m0 (.cons Mm.m1 .nil)) (fun i28 s29 z30 hi40 hr36 => ?_)
    refine .seq ?_
    refine .reg rfl ?_
    refine .opp (P.bin (v := Bo (decide ((i28 : Int) < (a0.length : Nat)))) .g0 .g1 .lss) rfl ?_
    refine .nil ?_
    refine .then ?_
    refine .seq ?_
    refine .cond .t0 (fun c41 => ?_) (fun c41 => ?_)
    · obtain ⟨e31, hx38⟩ := get_of c41
      obtain ⟨ct37, hc34, hn35⟩ := loopR_at hx38 hr36
      refine .gzx (D := (fun (_ : List UInt8) z => [z])) (q := fun z_ => rows 1 z_ (e31.map (fun x => [B8 x]))) Mm.m0 hx38 (fun _ => rfl) fun u27 _ hx43 => ?_
      refine .skip ?_
      refine .then ?_
      refine .seq ?_
      refine .block ?_
      refine .seq ?_
      refine .reg rfl ?_
      refine .ixq Mm.m2 hx43 fun p44 q45 hq46 => ?_
      refine .opp (P.ixi (i := i28) .g0 rfl .g2 hq46 runUnderlying146 sizeOf131) rfl ?_
      refine .op (V.ldx0 (u := u27) .t0 hq46 Mm.m2 hx43 (.one isAgg131 rfl)) rfl ?_
      refine .opp (P.asg .t0) rfl ?_
      refine .nil ?_
      refine .then ?_
      refine .reg rfl ?_
      refine .opp (P.mov .g4) rfl ?_
      refine .opp (P.mov .t1) rfl ?_
      obtain ⟨hb48, hc34⟩ := grd_eq hc34
      refine .opg (G.app (by_ := 1) .t1 .t0 .k0 (.inl Mm.m0) runUnderlying131 runUnderlying131 sizeOf5 typeInfo5 rfl rfl zeroValue5 rfl (one_map one_5 _) (by simpa using hb48) rfl) rfl fun u47 _ => ?_
      refine .conseq .k0 (q := lst 5 1 u47 ((s29 ++ e31).map (fun x => [B8 x]))) (fun _ hh => by simpa [List.map_append] using hh) ?_
      refine .drop .k4 ?_
      refine .opp (P.asg .t0) rfl ?_
      refine .nil ?_
      refine .inn ?_
      refine .then ?_
      refine .reg rfl ?_
      refine .opp (P.bin .g1 .k (.addc (inc_ok (lt_of_get hx38) hl39))) rfl ?_
      refine .drop .k2 ?_
      refine .opp (P.mov .t0) rfl ?_
      refine .nil ?_
      cases hc34
      exact .rdR (s29 ++ e31) u47 hn35 (lt_of_get hx38) (.cons Mm.m0 (.cons Mm.m2 (.cons Mm.m3 (.cons Mm.m1 .nil)))) (.of (.cons .k0 .nil)) (.cons Mm.m1 (.cons Mm.m2 .nil))
    · obtain rfl := loopR_end (le_of_not c41) hr36
      have h := dn_on h
      refine .exit ?_
      refine .thx ?_
      refine .thx ?_
      refine .inb ?_
      refine .then ?_
      refine .seq ?_
      refine .reg rfl ?_
      refine .opp (P.mov .t3) rfl ?_
      refine .opp (P.asg .t0) rfl ?_
      refine .nil ?_
      refine .then ?_
      refine .ret ?_
      cases h
      exact .finw z30 (.r1 rfl (.tmp .g0)) trivial (Ls.of (.cons .k0 .nil)) .nil
attribute [irreducible] slices_Concat_byte
noncomputable def blob_Cat (a0 : List (List UInt8)) : Option ((List UInt8)) :=
  Option.bind (slices_Concat_byte a0) fun r1 => some r1
set_option maxRecDepth 20000 in
set_option maxHeartbeats 1000000 in
theorem S_blob_Cat (v00 : Value) (a0 : List (List UInt8)) (zl00 : List Value) (r : (List UInt8)) (h : blob_Cat a0 = some r) :
    SpecF Tryz.prog 91 [v00] [] [rows 1 v00 (List.zipWith (fun (_ : List UInt8) z => [z]) a0 zl00), gz (fun (x : List UInt8) z => rows 1 z (x.map (fun x => [B8 x]))) a0 zl00] (fun z : Value => True) (fun z => z) (fun z M => lst 5 1 z (r.map (fun x => [B8 x])) ::  M) (fun z M =>  M) := by
  refine .of func91 rfl ntmps91 rfl fun w0 D0 G0 => ?_
  unfold blob_Cat at h
  refine .seq ?_
  refine .reg rfl ?_
  refine .op0 (OpP.toV (P.asg .k)) rfl ?_
  refine .nil ?_
  refine .then ?_
  refine .seq ?_
  refine .reg rfl ?_
  refine .opp (P.mov .t0) rfl ?_
  obtain ⟨r1, hr2, h⟩ := bnd_eq h
  refine .opg (G.call call100 (.cons .t0 .nil) (S_slices_Concat_byte v00 a0 zl00 r1 hr2) .nil (.cons Mm.m0 (.cons Mm.m1 .nil)) (fun _ _ => rfl) (fun _ _ => rfl) rfl) rfl fun u3 _ => ?_
  refine .opp (P.asg .t0) rfl ?_
  refine .nil ?_
  refine .then ?_
  refine .ret ?_
  cases h
  exact .finw u3 (.r1 rfl (.tmp .g0)) trivial (Ls.of (.cons .k0 .nil)) .nil
attribute [irreducible] blob_Cat
noncomputable def hash_Text (a0 : List (List UInt8)) : Option (ByteArray) :=
  Option.bind (blob_Cat a0) fun r1 => Option.bind (hash_Sum r1) fun r4 => some (⟨⟨r4⟩⟩ : ByteArray)
set_option maxRecDepth 20000 in
set_option maxHeartbeats 1000000 in
theorem S_hash_Text (v00 : Value) (a0 : List (List UInt8)) (zl00 : List Value) (r : ByteArray) (h : hash_Text a0 = some r) :
    SpecF Tryz.prog 83 [v00] [] [rows 1 v00 (List.zipWith (fun (_ : List UInt8) z => [z]) a0 zl00), gz (fun (x : List UInt8) z => rows 1 z (x.map (fun x => [B8 x]))) a0 zl00] (fun z : Unit => True) (fun z => .string r) (fun z M =>  M) (fun z M =>  M) := by
  refine .of func83 rfl ntmps83 rfl fun w0 D0 G0 => ?_
  unfold hash_Text at h
  refine .seq ?_
  refine .reg rfl ?_
  refine .op0 (OpP.toV (P.asg .k)) rfl ?_
  refine .nil ?_
  refine .then ?_
  refine .seq ?_
  refine .reg rfl ?_
  refine .opp (P.mov .t0) rfl ?_
  obtain ⟨r1, hr2, h⟩ := bnd_eq h
  refine .opg (G.call call91 (.cons .t0 .nil) (S_blob_Cat v00 a0 zl00 r1 hr2) .nil (.cons Mm.m0 (.cons Mm.m1 .nil)) (fun _ _ => rfl) (fun _ _ => rfl) rfl) rfl fun u3 _ => ?_
  refine .frz .k0 ?_
  obtain ⟨r4, hr5, h⟩ := bnd_eq h
  refine .opg (G.call call92 (.cons .t0 .nil) (S_hash_Sum u3 r1 r4 hr5) .nil (.cons Mm.m0 .nil) (fun _ _ => rfl) (fun _ _ => rfl) rfl) rfl fun u6 _ => ?_
  refine .op (V.b2sl (l := r4) (e := 5) .t0 .k0 (by kernel_rfl) (by kernel_rfl) (by kernel_rfl)) rfl ?_
  refine .opp (P.asg .t0) rfl ?_
  refine .nil ?_
  refine .then ?_
  refine .ret ?_
  cases h
  exact .finw () (.r1 rfl (.tmp .g0)) trivial (Ls.of .nil) .nil
attribute [irreducible] hash_Text
noncomputable def hash_Short (a0 : List (List UInt8)) : Option (ByteArray) :=
  Option.bind (hash_Text a0) fun r1 => grd (okS r1.size none (some 8) none) <| some ((r1.extract 0 (8 : Int).toNat))
set_option maxRecDepth 20000 in
set_option maxHeartbeats 1000000 in
theorem S_hash_Short (v00 : Value) (a0 : List (List UInt8)) (zl00 : List Value) (r : ByteArray) (h : hash_Short a0 = some r) :
    SpecF Tryz.prog 121 [v00] [] [rows 1 v00 (List.zipWith (fun (_ : List UInt8) z => [z]) a0 zl00), gz (fun (x : List UInt8) z => rows 1 z (x.map (fun x => [B8 x]))) a0 zl00] (fun z : Unit => True) (fun z => .string r) (fun z M =>  M) (fun z M =>  M) := by
  refine .of func121 rfl ntmps121 rfl fun w0 D0 G0 => ?_
  unfold hash_Short at h
  refine .seq ?_
  refine .reg rfl ?_
  refine .op0 (OpP.toV (P.asg .k)) rfl ?_
  refine .nil ?_
  refine .then ?_
  refine .seq ?_
  refine .reg rfl ?_
  refine .opp (P.mov .t0) rfl ?_
  obtain ⟨r1, hr2, h⟩ := bnd_eq h
  refine .opg (G.call call83 (.cons .t0 .nil) (S_hash_Text v00 a0 zl00 r1 hr2) .nil (.cons Mm.m0 (.cons Mm.m1 .nil)) (fun _ _ => rfl) (fun _ _ => rfl) rfl) rfl fun _ _ => ?_
  obtain ⟨hb3, h⟩ := grd_eq h
  refine .opp (P.slst (li := none) (hj := (some 8)) .t0 .none (.some .k) runUnderlying9 hb3) rfl ?_
  refine .opp (P.asg .t0) rfl ?_
  refine .nil ?_
  refine .then ?_
  refine .ret ?_
  cases h
  exact .finw () (.r1 rfl (.tmp .g0)) trivial (Ls.of .nil) .nil
attribute [irreducible] hash_Short
noncomputable def ots_closed (a0 : List ByteArray) (a1 : List Int) : Option (ByteArray) :=
  Option.bind (loopR (fun (i1 : Nat) (e4 : ByteArray) (s2 : (List (List UInt8))) => Option.bind (at_ a1 (i1 : Int)) fun (x21 : Int) => Option.bind (ots_Walk e4 (IntKind.i64.wrap (3 - x21))) fun r25 => grd (r25.size ≤ 140737488355328) <| grd ((s2.length + ([(r25.data.toList)] : List (List UInt8)).length) * 24 ≤ 140737488355328) <| some (.nx ((s2 ++ ([(r25.data.toList)] : List (List UInt8)))))) 0 a0 ([])) fun o5 => Lo.on o5 fun (s2 : (List (List UInt8))) => Option.bind (hash_Short s2) fun r35 => some r35
set_option maxRecDepth 20000 in
set_option maxHeartbeats 1000000 in
theorem S_ots_closed (v00 : Value) (a0 : List ByteArray) (v01 : Value) (a1 : List Int) (r : ByteArray) (h : ots_closed a0 a1 = some r) :
    SpecF Tryz.prog 113 [v00, v01] [] [rows 1 v00 (a0.map (fun x => [.string x])), rows 1 v01 (a1.map (fun x => [N x]))] (fun z : Unit => True) (fun z => .string r) (fun z M =>  M) (fun z M =>  M) := by
  refine .of func113 rfl ntmps113 rfl fun w0 D0 G0 => ?_
  unfold ots_closed at h
  refine .seq ?_
  refine .reg rfl ?_
  refine .op0 (OpP.toV (P.asg .k)) rfl ?_
  refine .nil ?_
  refine .then ?_
  refine .seq ?_
  refine .reg rfl ?_
  refine .opp (P.asg .k) rfl ?_
  refine .nil ?_
  refine .then ?_
  refine .seq ?_
  refine .seq ?_
  refine .reg rfl ?_
  refine .opp (P.mov .t1) rfl ?_
  refine .op (V.lnr (n := a0.length) .g0 Mm.m0 map_len runUnderlying152) rfl ?_
  refine .opp (P.mov .k) rfl ?_
  refine .nil ?_
  refine .then ?_
  refine .block ?_
  refine .lnil 131 1 ?_
  refine .gzn (G := (fun (x : List UInt8) z => rows 1 z (x.map (fun x => [B8 x])))) ?_
  obtain ⟨o5, ho6, h⟩ := bnd_eq h
  refine .lenq Mm.m1 fun hl12 => ?_
  rw [map_len] at hl12
  refine .loopR (γ := Value × List Value) (fun i1 (s2 : (List (List UInt8))) z3 => [(10, N (i1 : Int)), (9, N (a0.length : Int)), (8, v00), (5, z3.1), (1, v01)]) (fun (s2 : (List (List UInt8))) z3 => [lst 131 1 z3.1 (List.zipWith (fun (_ : List UInt8) z => [z]) s2 z3.2)]) (fun (s2 : (List (List UInt8))) z3 => [rows 1 v00 (a0.map (fun x => [.string x])), gz (fun (x : List UInt8) z => rows 1 z (x.map (fun x => [B8 x]))) s2 z3.2, rows 1 v01 (a1.map (fun x => [N x]))]) ⟨nilSl, []⟩ ho6 (.cons Mm.m0 (.cons Mm.m1 (.cons Mm.m2 (.cons Mm.m3 (.cons Mm.m4 .nil))))) (.of (.cons .k0 .nil)) (.cons Mm.m1 (.cons Mm.m0 (.cons Mm.m2 .nil))) (fun i1 s2 z3 hi13 hr9 => ?_)
  refine .seq ?_
  refine .reg rfl ?_
  refine .opp (P.bin (v := Bo (decide ((i1 : Int) < (a0.length : Nat)))) .g0 .g1 .lss) rfl ?_
  refine .nil ?_
  refine .then ?_
  refine .seq ?_
  refine .cond .t0 (fun c14 => ?_) (fun c14 => ?_)
  · obtain ⟨e4, hx11⟩ := get_of c14
    obtain ⟨ct10, hc7, hn8⟩ := loopR_at hx11 hr9
    refine .skip ?_
    refine .then ?_
    refine .seq ?_
    refine .block ?_
    refine .seq ?_
    refine .reg rfl ?_
    refine .opp (P.mov .g0) rfl ?_
    refine .ixq Mm.m0 (map_get hx11) fun p15 q16 hq17 => ?_
    refine .opp (P.ixi (i := i1) .g1 rfl .g3 hq17 runUnderlying152 sizeOf9) rfl ?_
    refine .op (V.ldx0 (u := .string e4) .t0 hq17 Mm.m0 (map_get hx11) (.one isAgg9 rfl)) rfl ?_
    refine .opp (P.asg .t1) rfl ?_
    refine .opp (P.asg .t1) rfl ?_
    refine .nil ?_
    refine .then ?_
    refine .reg rfl ?_
    refine .opp (P.mov .g5) rfl ?_
    refine .opp (P.mov .t1) rfl ?_
    refine .opp (P.mov .g7) rfl ?_
    refine .opp (P.mov .t3) rfl ?_
    obtain ⟨x21, hx22, hc7⟩ := bnd_eq hc7
    obtain ⟨i23, hi24, hx22⟩ := at_eq hx22
    have hi24_ : ((i1 : Int)).toNat = i23 := by rw [hi24]; rfl
    refine .ixq Mm.m2 (map_get hx22) fun p18 q19 hq20 => ?_
    refine .opp (P.ixi (i := i23) .t0 hi24 .t0 hq20 runUnderlying23 sizeOf3) rfl ?_
    refine .op (V.ldx0 (u := N x21) .t0 hq20 Mm.m2 (map_get hx22) (.one isAgg3 rfl)) rfl ?_
    refine .opp (P.bin .k .t0 .sub) rfl ?_
    obtain ⟨r25, hr26, hc7⟩ := bnd_eq hc7
    refine .opg (G.call call123 (.cons .t1 (.cons .t0 .nil)) (S_ots_Walk e4 (IntKind.i64.wrap (3 - x21)) r25 hr26) .nil .nil (fun _ _ => rfl) (fun _ _ => rfl) rfl) rfl fun _ _ => ?_
    obtain ⟨hb28, hc7⟩ := grd_eq hc7
    refine .opg (G.s2b (e := 5) .t0 (by kernel_rfl) (by kernel_rfl) (by kernel_rfl) hb28 rfl) rfl fun u27 _ => ?_
    refine .oner Mm.m0 fun ho30 => ?_
    refine .opg (G.bsl (cs := [u27]) .t0 runUnderlying146 sizeOf131 zeroValue131 (cells1 ho30) rfl rfl rfl rfl) rfl fun u29 _ => ?_
    refine .gzl Mm.m2 fun hz32 => ?_
    refine .gzn (G := (fun (x : List UInt8) z => rows 1 z (x.map (fun x => [B8 x])))) ?_
    refine .gzc (x := (r25.data.toList)) (z := u27) Mm.m0 rfl ?_
    refine .gzo (D := (fun (_ : List UInt8) z => [z])) Mm.m0 (fun _ _ _ h => rows_one h) (fun _ _ h => onez h) fun ho33 => ?_
    refine .gza Mm.m3 Mm.m0 ?_
    obtain ⟨hb34, hc7⟩ := grd_eq hc7
    refine .opg (G.app (by_ := 24) .t1 .t0 .k1 (.inr (.inr ⟨_, Mm.m0⟩)) runUnderlying146 runUnderlying146 sizeOf131 typeInfo131 rfl rfl zeroValue131 rfl ho33 (by simpa [zip_len hz32] using hb34) rfl) rfl fun u31 _ => ?_
    refine .conseq .k0 (q := lst 131 1 u31 (List.zipWith (fun (_ : List UInt8) z => [z]) (s2 ++ ([(r25.data.toList)] : List (List UInt8))) (z3.2 ++ [u27]))) (fun _ hh => by simpa [zip_app hz32] using hh) ?_
    refine .drop .k4 ?_
    refine .opp (P.asg .t0) rfl ?_
    refine .nil ?_
    refine .inn ?_
    refine .then ?_
    refine .reg rfl ?_
    refine .opp (P.bin .g1 .k (.addc (inc_ok (lt_of_get hx11) hl12))) rfl ?_
    refine .drop .k2 ?_
    refine .opp (P.mov .t0) rfl ?_
    refine .nil ?_
    cases hc7
    exact .rdR ((s2 ++ ([(r25.data.toList)] : List (List UInt8)))) ⟨u31, (z3.2 ++ [u27])⟩ hn8 (lt_of_get hx11) (.cons Mm.m0 (.cons Mm.m2 (.cons Mm.m3 (.cons Mm.m1 (.cons Mm.m4 .nil))))) (.of (.cons .k0 .nil)) (.cons Mm.m3 (.cons Mm.m0 (.cons Mm.m5 .nil)))
  · obtain rfl := loopR_end (le_of_not c14) hr9
    have h := dn_on h
    refine .exit ?_
    refine .thx ?_
    refine .thx ?_
    refine .inb ?_
    refine .then ?_
    refine .seq ?_
    refine .reg rfl ?_
    refine .opp (P.mov .t3) rfl ?_
    refine .frz .k0 ?_
    obtain ⟨r35, hr36, h⟩ := bnd_eq h
    refine .opg (G.call call121 (.cons .t0 .nil) (S_hash_Short z3.1 s2 z3.2 r35 hr36) .nil (.cons Mm.m0 (.cons Mm.m2 .nil)) (fun _ _ => rfl) (fun _ _ => rfl) rfl) rfl fun _ _ => ?_
    refine .opp (P.asg .t0) rfl ?_
    refine .nil ?_
    refine .then ?_
    refine .ret ?_
    cases h
    exact .finw () (.r1 rfl (.tmp .g0)) trivial (Ls.of .nil) .nil
attribute [irreducible] ots_closed
noncomputable def ots_Open (a0 : List UInt8) (a1 : List ByteArray) : Option (ByteArray) :=
  Option.bind (slices_ContainsFunc_string_ots_Open_1 a1) fun r1 => thn (if (decide ((a1.length : Int) ≠ 15)) = true then true else r1) fun (y3 : Bool) => if y3 = true then (some ⟨#[]⟩) else (Option.bind (ots_Digits a0) fun r8 => Option.bind (ots_closed a1 r8) fun r11 => some r11)
set_option maxRecDepth 20000 in
set_option maxHeartbeats 1000000 in
theorem S_ots_Open (v00 : Value) (a0 : List UInt8) (v01 : Value) (a1 : List ByteArray) (r : ByteArray) (h : ots_Open a0 a1 = some r) :
    SpecF Tryz.prog 99 [v00, v01] [] [rows 1 v00 (a0.map (fun x => [B8 x])), rows 1 v01 (a1.map (fun x => [.string x]))] (fun z : Unit => True) (fun z => .string r) (fun z M =>  M) (fun z M =>  M) := by
  refine .of func99 rfl ntmps99 rfl fun w0 D0 G0 => ?_
  unfold ots_Open at h
  refine .seq ?_
  refine .reg rfl ?_
  refine .op0 (OpP.toV (P.asg .k)) rfl ?_
  refine .nil ?_
  refine .then ?_
  refine .seq ?_
  refine .reg rfl ?_
  refine .opp (P.mov .g1) rfl ?_
  obtain ⟨r1, hr2, h⟩ := bnd_eq h
  refine .opg (G.call call111 (.cons .t0 (.cons .f .nil)) (S_slices_ContainsFunc_string_ots_Open_1 v01 a1 r1 hr2) .nil (.cons Mm.m1 .nil) (fun _ _ => rfl) (fun _ _ => rfl) rfl) rfl fun _ _ => ?_
  refine .opp (P.asg .t0) rfl ?_
  refine .nil ?_
  refine .then ?_
  refine .seq ?_
  obtain ⟨y3, hj5, h⟩ := thn_eq h
  refine .cutx (γ := Unit) (E1 := fun z4 => [(13, Bo y3), (0, v00), (1, v01)]) (L1 := fun z4 => []) (R1 := fun z4 => [rows 1 v00 (a0.map (fun x => [B8 x])), rows 1 v01 (a1.map (fun x => [.string x]))]) ?_ (fun z4 => ?_)
  · clear h
    refine .reg rfl ?_
    refine .opp (P.mov .g2) rfl ?_
    refine .op (V.lnr (n := a1.length) .t0 Mm.m1 map_len runUnderlying152) rfl ?_
    refine .opp (P.bin .t0 .k .neq) rfl ?_
    refine .opp (P.mov .t0) rfl ?_
    refine .split .k0 (fun c6 => ?_) (fun c6 => ?_)
    · rw [if_pos c6] at hj5
      refine .gno rfl .g0 rfl rfl ?_
      refine .opp (P.pickT .t0 .k) rfl ?_
      refine .nil ?_
      subst hj5
      exact .stj () (.cons Mm.m0 (.cons Mm.m2 (.cons Mm.m3 .nil))) (.of .nil) (.cons Mm.m0 (.cons Mm.m1 .nil))
    · rw [if_neg (ne_true_of_eq_false c6)] at hj5
      refine .gyes rfl .g0 ?_
      refine .opp (P.mov .t1) rfl ?_
      refine .opp (P.pickF .t1 .t0) rfl ?_
      refine .nil ?_
      subst hj5
      exact .stj () (.cons Mm.m0 (.cons Mm.m1 (.cons Mm.m2 .nil))) (.of .nil) (.cons Mm.m0 (.cons Mm.m1 .nil))
  · clear hj5
    refine .cond .t0 (fun c7 => ?_) (fun c7 => ?_)
    · rw [if_pos c7] at h
      refine .seq ?_
      refine .reg rfl ?_
      refine .opp (P.asg .k) rfl ?_
      refine .nil ?_
      refine .then ?_
      refine .ret ?_
      refine .thr ?_
      cases h
      exact .finw () (.r1 rfl (.tmp .g0)) trivial (Ls.of .nil) .nil
    · rw [if_neg (ne_true_of_eq_false c7)] at h
      refine .skip ?_
      refine .then ?_
      refine .seq ?_
      refine .reg rfl ?_
      refine .opp (P.mov .t1) rfl ?_
      refine .opp (P.mov .t1) rfl ?_
      obtain ⟨r8, hr9, h⟩ := bnd_eq h
      refine .opg (G.call call114 (.cons .t0 .nil) (S_ots_Digits v00 a0 r8 hr9) .nil (.cons Mm.m0 .nil) (fun _ _ => rfl) (fun _ _ => rfl) rfl) rfl fun u10 _ => ?_
      refine .frz .k0 ?_
      obtain ⟨r11, hr12, h⟩ := bnd_eq h
      refine .opg (G.call call113 (.cons .t1 (.cons .t0 .nil)) (S_ots_closed v01 a1 u10 r8 r11 hr12) .nil (.cons Mm.m2 (.cons Mm.m0 .nil)) (fun _ _ => rfl) (fun _ _ => rfl) rfl) rfl fun _ _ => ?_
      refine .opp (P.asg .t0) rfl ?_
      refine .nil ?_
      refine .then ?_
      refine .ret ?_
      cases h
      exact .finw () (.r1 rfl (.tmp .g0)) trivial (Ls.of .nil) .nil
attribute [irreducible] ots_Open
noncomputable def hash_Text_n2 (a0a : List UInt8) (a0b : List UInt8) : Option (ByteArray) :=
  Option.bind (blob_Cat_n2 a0a a0b) fun r1 => Option.bind (hash_Sum r1) fun r4 => some (⟨⟨r4⟩⟩ : ByteArray)
set_option maxRecDepth 20000 in
set_option maxHeartbeats 1000000 in
theorem S_hash_Text_n2 (v00 : Value) (z00a : Value) (a0a : List UInt8) (z00b : Value) (a0b : List UInt8) (r : ByteArray) (h : hash_Text_n2 a0a a0b = some r) :
    SpecF Tryz.prog 83 [v00] [] [rows 1 v00 [[z00a], [z00b]], rows 1 z00a (a0a.map (fun x => [B8 x])), rows 1 z00b (a0b.map (fun x => [B8 x]))] (fun z : Unit => True) (fun z => .string r) (fun z M =>  M) (fun z M =>  M) := by
  refine .of func83 rfl ntmps83 rfl fun w0 D0 G0 => ?_
  unfold hash_Text_n2 at h
  refine .seq ?_
  refine .reg rfl ?_
  refine .op0 (OpP.toV (P.asg .k)) rfl ?_
  refine .nil ?_
  refine .then ?_
  refine .seq ?_
  refine .reg rfl ?_
  refine .opp (P.mov .t0) rfl ?_
  obtain ⟨r1, hr2, h⟩ := bnd_eq h
  refine .opg (G.call call91 (.cons .t0 .nil) (S_blob_Cat_n2 v00 z00a a0a z00b a0b r1 hr2) .nil (.cons Mm.m0 (.cons Mm.m1 (.cons Mm.m2 .nil))) (fun _ _ => rfl) (fun _ _ => rfl) rfl) rfl fun u3 _ => ?_
  refine .frz .k0 ?_
  obtain ⟨r4, hr5, h⟩ := bnd_eq h
  refine .opg (G.call call92 (.cons .t0 .nil) (S_hash_Sum u3 r1 r4 hr5) .nil (.cons Mm.m0 .nil) (fun _ _ => rfl) (fun _ _ => rfl) rfl) rfl fun u6 _ => ?_
  refine .op (V.b2sl (l := r4) (e := 5) .t0 .k0 (by kernel_rfl) (by kernel_rfl) (by kernel_rfl)) rfl ?_
  refine .opp (P.asg .t0) rfl ?_
  refine .nil ?_
  refine .then ?_
  refine .ret ?_
  cases h
  exact .finw () (.r1 rfl (.tmp .g0)) trivial (Ls.of .nil) .nil
attribute [irreducible] hash_Text_n2
noncomputable def hash_Short_n2 (a0a : List UInt8) (a0b : List UInt8) : Option (ByteArray) :=
  Option.bind (hash_Text_n2 a0a a0b) fun r1 => grd (okS r1.size none (some 8) none) <| some ((r1.extract 0 (8 : Int).toNat))
set_option maxRecDepth 20000 in
set_option maxHeartbeats 1000000 in
theorem S_hash_Short_n2 (v00 : Value) (z00a : Value) (a0a : List UInt8) (z00b : Value) (a0b : List UInt8) (r : ByteArray) (h : hash_Short_n2 a0a a0b = some r) :
    SpecF Tryz.prog 121 [v00] [] [rows 1 v00 [[z00a], [z00b]], rows 1 z00a (a0a.map (fun x => [B8 x])), rows 1 z00b (a0b.map (fun x => [B8 x]))] (fun z : Unit => True) (fun z => .string r) (fun z M =>  M) (fun z M =>  M) := by
  refine .of func121 rfl ntmps121 rfl fun w0 D0 G0 => ?_
  unfold hash_Short_n2 at h
  refine .seq ?_
  refine .reg rfl ?_
  refine .op0 (OpP.toV (P.asg .k)) rfl ?_
  refine .nil ?_
  refine .then ?_
  refine .seq ?_
  refine .reg rfl ?_
  refine .opp (P.mov .t0) rfl ?_
  obtain ⟨r1, hr2, h⟩ := bnd_eq h
  refine .opg (G.call call83 (.cons .t0 .nil) (S_hash_Text_n2 v00 z00a a0a z00b a0b r1 hr2) .nil (.cons Mm.m0 (.cons Mm.m1 (.cons Mm.m2 .nil))) (fun _ _ => rfl) (fun _ _ => rfl) rfl) rfl fun _ _ => ?_
  obtain ⟨hb3, h⟩ := grd_eq h
  refine .opp (P.slst (li := none) (hj := (some 8)) .t0 .none (.some .k) runUnderlying9 hb3) rfl ?_
  refine .opp (P.asg .t0) rfl ?_
  refine .nil ?_
  refine .then ?_
  refine .ret ?_
  cases h
  exact .finw () (.r1 rfl (.tmp .g0)) trivial (Ls.of .nil) .nil
attribute [irreducible] hash_Short_n2
noncomputable def mss_join (a0 : ByteArray) (a1 : ByteArray) : Option (ByteArray) :=
  grd (a0.size ≤ 140737488355328) <| grd (a1.size ≤ 140737488355328) <| Option.bind (hash_Short_n2 (a0.data.toList) (a1.data.toList)) fun r8 => some r8
set_option maxRecDepth 20000 in
set_option maxHeartbeats 1000000 in
theorem S_mss_join (a0 : ByteArray) (a1 : ByteArray) (r : ByteArray) (h : mss_join a0 a1 = some r) :
    SpecF Tryz.prog 110 [.string a0, .string a1] [] [] (fun z : Unit => True) (fun z => .string r) (fun z M =>  M) (fun z M =>  M) := by
  refine .of func110 rfl ntmps110 rfl fun w0 D0 G0 => ?_
  unfold mss_join at h
  refine .seq ?_
  refine .reg rfl ?_
  refine .op0 (OpP.toV (P.asg .k)) rfl ?_
  refine .nil ?_
  refine .then ?_
  refine .seq ?_
  refine .reg rfl ?_
  refine .opp (P.mov .t0) rfl ?_
  obtain ⟨hb2, h⟩ := grd_eq h
  refine .opg (G.s2b (e := 5) .t0 (by kernel_rfl) (by kernel_rfl) (by kernel_rfl) hb2 rfl) rfl fun u1 _ => ?_
  refine .opp (P.mov .t1) rfl ?_
  obtain ⟨hb4, h⟩ := grd_eq h
  refine .opg (G.s2b (e := 5) .t0 (by kernel_rfl) (by kernel_rfl) (by kernel_rfl) hb4 rfl) rfl fun u3 _ => ?_
  refine .oner Mm.m1 fun ho6 => ?_
  refine .oner Mm.m0 fun ho7 => ?_
  refine .opg (G.bsln (xs := [[u1], [u3]]) (.cons .t1 (.cons .t0 .nil)) runUnderlying146 sizeOf131 zeroValue131 (fill2 ho6 ho7) rfl rfl rfl rfl rfl) rfl fun u5 _ => ?_
  refine .frz .k0 ?_
  obtain ⟨r8, hr9, h⟩ := bnd_eq h
  refine .opg (G.call call121 (.cons .t0 .nil) (S_hash_Short_n2 u5 u1 (a0.data.toList) u3 (a1.data.toList) r8 hr9) .nil (.cons Mm.m0 (.cons Mm.m2 (.cons Mm.m1 .nil))) (fun _ _ => rfl) (fun _ _ => rfl) rfl) rfl fun _ _ => ?_
  refine .opp (P.asg .t0) rfl ?_
  refine .nil ?_
  refine .then ?_
  refine .ret ?_
  cases h
  exact .finw () (.r1 rfl (.tmp .g0)) trivial (Ls.of .nil) .nil
attribute [irreducible] mss_join
noncomputable def mss_climb (a0 : ByteArray) (a1 : Int) (a2 : List (List UInt8)) : Option (ByteArray) :=
  Option.bind (loopR (fun (i3 : Nat) (e6 : List UInt8) (s4 : ByteArray × Int) => Option.bind (if (decide ((bandK .i64 s4.2 1) = 0)) = true then (Option.bind (mss_join s4.1 (⟨⟨e6⟩⟩ : ByteArray)) fun r26 => some r26) else (Option.bind (mss_join (⟨⟨e6⟩⟩ : ByteArray) s4.1) fun r28 => some r28)) fun (y22 : ByteArray) => some (.nx (y22, shrK .i64 s4.2 1))) 0 a2 (a0, a1)) fun o7 => Lo.on o7 fun (s4 : ByteArray × Int) => some s4.1
set_option maxRecDepth 20000 in
set_option maxHeartbeats 1000000 in
theorem S_mss_climb (a0 : ByteArray) (a1 : Int) (v02 : Value) (a2 : List (List UInt8)) (zl02 : List Value) (r : ByteArray) (h : mss_climb a0 a1 a2 = some r) :
    SpecF Tryz.prog 98 [.string a0, N a1, v02] [] [rows 1 v02 (List.zipWith (fun (_ : List UInt8) z => [z]) a2 zl02), gz (fun (x : List UInt8) z => rows 1 z (x.map (fun x => [B8 x]))) a2 zl02] (fun z : Unit => True) (fun z => .string r) (fun z M =>  M) (fun z M =>  M) := by
  refine .of func98 rfl ntmps98 rfl fun w0 D0 G0 => ?_
  unfold mss_climb at h
  refine .seq ?_
  refine .reg rfl ?_
  refine .op0 (OpP.toV (P.asg .k)) rfl ?_
  refine .nil ?_
  refine .then ?_
  refine .seq ?_
  refine .seq ?_
  refine .reg rfl ?_
  refine .opp (P.mov .t2) rfl ?_
  refine .gzl Mm.m1 fun hz1 => ?_
  refine .op (V.lnr (n := a2.length) .g0 Mm.m0 (zip_len hz1) runUnderlying146) rfl ?_
  refine .opp (P.mov .k) rfl ?_
  refine .nil ?_
  refine .then ?_
  refine .block ?_
  obtain ⟨o7, ho8, h⟩ := bnd_eq h
  refine .gzl Mm.m1 fun hz17 => ?_
  refine .lenq Mm.m0 fun hl14 => ?_
  rw [zip_len hz17] at hl14
  refine .loopR (γ := Unit) (fun i3 (s4 : ByteArray × Int) z5 => [(11, N (i3 : Int)), (10, N (a2.length : Int)), (9, v02), (0, .string s4.1), (1, N s4.2)]) (fun (s4 : ByteArray × Int) z5 => []) (fun (s4 : ByteArray × Int) z5 => [gz (fun (x : List UInt8) z => rows 1 z (x.map (fun x => [B8 x]))) a2 zl02, rows 1 v02 (List.zipWith (fun (_ : List UInt8) z => [z]) a2 zl02)]) () ho8 (.cons Mm.m0 (.cons Mm.m1 (.cons Mm.m2 (.cons Mm.m3 (.cons Mm.m4 .nil))))) (.of .nil) (.cons Mm.m1 (.cons Mm.m0 .nil)) (fun i3 s4 z5 hi15 hr11 => ?_)
  refine .seq ?_
  refine .reg rfl ?_
  refine .opp (P.bin (v := Bo (decide ((i3 : Int) < (a2.length : Nat)))) .g0 .g1 .lss) rfl ?_
  refine .nil ?_
  refine .then ?_
  refine .seq ?_
  refine .cond .t0 (fun c16 => ?_) (fun c16 => ?_)
  · obtain ⟨e6, hx13⟩ := get_of c16
    obtain ⟨ct12, hc9, hn10⟩ := loopR_at hx13 hr11
    refine .gzx (D := (fun (_ : List UInt8) z => [z])) (q := fun z_ => rows 1 z_ (e6.map (fun x => [B8 x]))) Mm.m0 hx13 (fun _ => rfl) fun u2 _ hx18 => ?_
    refine .skip ?_
    refine .then ?_
    refine .seq ?_
    refine .block ?_
    refine .seq ?_
    refine .reg rfl ?_
    refine .ixq Mm.m2 hx18 fun p19 q20 hq21 => ?_
    refine .opp (P.ixi (i := i3) .g0 rfl .g2 hq21 runUnderlying146 sizeOf131) rfl ?_
    refine .op (V.ldx0 (u := u2) .t0 hq21 Mm.m2 hx18 (.one isAgg131 rfl)) rfl ?_
    refine .opp (P.asg .t0) rfl ?_
    refine .nil ?_
    refine .then ?_
    obtain ⟨y22, hj24, hc9⟩ := bnd_eq hc9
    refine .cutx (γ := Unit) (E1 := fun z23 => [(0, .string y22), (11, N (i3 : Int)), (10, N (a2.length : Int)), (9, v02), (1, N s4.2)]) (L1 := fun z23 => []) (R1 := fun z23 => [gz (fun (x : List UInt8) z => rows 1 z (x.map (fun x => [B8 x]))) a2 zl02, rows 1 v02 (List.zipWith (fun (_ : List UInt8) z => [z]) a2 zl02)]) ?_ (fun z23 => ?_)
    · clear hc9
      refine .seq ?_
      refine .reg rfl ?_
      refine .opp (P.mov .g5) rfl ?_
      refine .opp (P.bin .t0 .k .and) rfl ?_
      refine .opp (P.bin .t0 .k .eql) rfl ?_
      refine .nil ?_
      refine .then ?_
      refine .cond .t0 (fun c25 => ?_) (fun c25 => ?_)
      · rw [if_pos c25] at hj24
        refine .reg rfl ?_
        refine .opp (P.mov .g4) rfl ?_
        refine .opp (P.mov .t1) rfl ?_
        refine .op (V.b2s (l := e6) (e := 5) .t0 Mm.m0 (by kernel_rfl) (by kernel_rfl) (by kernel_rfl)) rfl ?_
        obtain ⟨r26, hr27, hj24⟩ := bnd_eq hj24
        refine .opg (G.call call110 (.cons .t1 (.cons .t0 .nil)) (S_mss_join s4.1 (⟨⟨e6⟩⟩ : ByteArray) r26 hr27) .nil .nil (fun _ _ => rfl) (fun _ _ => rfl) rfl) rfl fun _ _ => ?_
        refine .drop .k4 ?_
        refine .opp (P.asg .t0) rfl ?_
        refine .nil ?_
        cases hj24
        exact .stj () (.cons Mm.m0 (.cons Mm.m1 (.cons Mm.m2 (.cons Mm.m3 (.cons Mm.m4 .nil))))) (.of .nil) (.cons Mm.m1 (.cons Mm.m2 .nil))
      · rw [if_neg (ne_true_of_eq_false c25)] at hj24
        refine .reg rfl ?_
        refine .opp (P.mov .t0) rfl ?_
        refine .op (V.b2s (l := e6) (e := 5) .t0 Mm.m0 (by kernel_rfl) (by kernel_rfl) (by kernel_rfl)) rfl ?_
        refine .opp (P.mov .g4) rfl ?_
        obtain ⟨r28, hr29, hj24⟩ := bnd_eq hj24
        refine .opg (G.call call110 (.cons .t1 (.cons .t0 .nil)) (S_mss_join (⟨⟨e6⟩⟩ : ByteArray) s4.1 r28 hr29) .nil .nil (fun _ _ => rfl) (fun _ _ => rfl) rfl) rfl fun _ _ => ?_
        refine .drop .k4 ?_
        refine .opp (P.asg .t0) rfl ?_
        refine .nil ?_
        cases hj24
        exact .stj () (.cons Mm.m0 (.cons Mm.m1 (.cons Mm.m2 (.cons Mm.m3 (.cons Mm.m4 .nil))))) (.of .nil) (.cons Mm.m1 (.cons Mm.m2 .nil))
    · clear hj24
      refine .reg rfl ?_
      refine .opp (P.mov .g4) rfl ?_
      refine .opp (P.bin .t0 .k (.shr (by decide))) rfl ?_
      refine .drop .k5 ?_
      refine .opp (P.asg .t0) rfl ?_
      refine .nil ?_
      refine .inn ?_
      refine .then ?_
      refine .reg rfl ?_
      refine .opp (P.bin .g2 .k (.addc (inc_ok (lt_of_get hx13) hl14))) rfl ?_
      refine .drop .k3 ?_
      refine .opp (P.mov .t0) rfl ?_
      refine .nil ?_
      cases hc9
      exact .rdR (y22, shrK .i64 s4.2 1) () hn10 (lt_of_get hx13) (.cons Mm.m0 (.cons Mm.m3 (.cons Mm.m4 (.cons Mm.m2 (.cons Mm.m1 .nil))))) (.of .nil) (.cons Mm.m0 (.cons Mm.m1 .nil))
  · obtain rfl := loopR_end (le_of_not c16) hr11
    have h := dn_on h
    refine .exit ?_
    refine .thx ?_
    refine .thx ?_
    refine .inb ?_
    refine .then ?_
    refine .seq ?_
    refine .reg rfl ?_
    refine .opp (P.mov .t3) rfl ?_
    refine .opp (P.asg .t0) rfl ?_
    refine .nil ?_
    refine .then ?_
    refine .ret ?_
    cases h
    exact .finw () (.r1 rfl (.tmp .g0)) trivial (Ls.of .nil) .nil
attribute [irreducible] mss_climb
noncomputable def mss_Verify (a0 : ByteArray) (a1 : List UInt8) (a2 : ByteArray) : Option (Int × Bool) :=
  Option.bind (mss_Leaf a2) fun r1 => thn (if (decide ((a2.size : Int) ≠ 145)) = true then true else (decide (r1 ≥ 8))) fun (y3 : Bool) => if y3 = true then (some (0, false)) else (grd (okS a2.size (some 1) none none) <| grd ((a2.extract (1 : Int).toNat a2.size).size ≤ 140737488355328) <| Option.bind (blob_Cut ((a2.extract (1 : Int).toNat a2.size).data.toList) 8) fun r11 => grd (okS r11.length none (some 15) none) <| Option.bind (loopR (fun (i22 : Nat) (e25 : List UInt8) (s23 : (List ByteArray)) => grd ((s23.length + ([(⟨⟨e25⟩⟩ : ByteArray)] : List ByteArray).length) * 16 ≤ 140737488355328) <| some (.nx ((s23 ++ ([(⟨⟨e25⟩⟩ : ByteArray)] : List ByteArray))))) 0 (slc r11 0 (15 : Int).toNat) ([])) fun o26 => Lo.on o26 fun (s23 : (List ByteArray)) => grd (okS r11.length (some 15) none none) <| Option.bind (ots_Open a1 s23) fun r50 => Option.bind (mss_climb r50 r1 (slc r11 (15 : Int).toNat r11.length)) fun r52 => if (decide (r52 ≠ a0)) = true then (some (0, false)) else (some (r1, true)))
set_option maxRecDepth 20000 in
set_option maxHeartbeats 1000000 in
theorem S_mss_Verify (a0 : ByteArray) (v01 : Value) (a1 : List UInt8) (a2 : ByteArray) (r : Int × Bool) (h : mss_Verify a0 a1 a2 = some r) :
    SpecF Tryz.prog 88 [.string a0, v01, .string a2] [] [rows 1 v01 (a1.map (fun x => [B8 x]))] (fun z : Unit => True) (fun z => Tu [N r.1, Bo r.2]) (fun z M =>  M) (fun z M =>  M) := by
  refine .of func88 rfl ntmps88 rfl fun w0 D0 G0 => ?_
  unfold mss_Verify at h
  refine .seq ?_
  refine .reg rfl ?_
  refine .op0 (OpP.toV (P.asg .k)) rfl ?_
  refine .op0 (OpP.toV (P.asg .k)) rfl ?_
  refine .nil ?_
  refine .then ?_
  refine .seq ?_
  refine .reg rfl ?_
  refine .opp (P.mov .g2) rfl ?_
  obtain ⟨r1, hr2, h⟩ := bnd_eq h
  refine .opg (G.call call96 (.cons .t0 .nil) (S_mss_Leaf a2 r1 hr2) .nil .nil (fun _ _ => rfl) (fun _ _ => rfl) rfl) rfl fun _ _ => ?_
  refine .opp (P.asg .t0) rfl ?_
  refine .nil ?_
  refine .then ?_
  refine .seq ?_
  obtain ⟨y3, hj5, h⟩ := thn_eq h
  refine .cutx (γ := Unit) (E1 := fun z4 => [(21, Bo y3), (8, N r1), (0, .string a0), (1, v01), (2, .string a2)]) (L1 := fun z4 => []) (R1 := fun z4 => [rows 1 v01 (a1.map (fun x => [B8 x]))]) ?_ (fun z4 => ?_)
  · clear h
    refine .reg rfl ?_
    refine .opp (P.mov .g3) rfl ?_
    refine .opp (P.lens .t0 runUnderlying9) rfl ?_
    refine .opp (P.bin .t0 .k .neq) rfl ?_
    refine .opp (P.mov .t0) rfl ?_
    refine .split .k0 (fun c6 => ?_) (fun c6 => ?_)
    · rw [if_pos c6] at hj5
      refine .gno rfl .g0 rfl rfl ?_
      refine .gno rfl .g0 rfl rfl ?_
      refine .opp (P.pickT .t0 .k) rfl ?_
      refine .nil ?_
      subst hj5
      exact .stj () (.cons Mm.m0 (.cons Mm.m1 (.cons Mm.m2 (.cons Mm.m3 (.cons Mm.m4 .nil))))) (.of .nil) (.cons Mm.m0 .nil)
    · rw [if_neg (ne_true_of_eq_false c6)] at hj5
      refine .gyes rfl .g0 ?_
      refine .opp (P.mov .g1) rfl ?_
      refine .gyes rfl .g1 ?_
      refine .opp (P.bin .t0 .k .geq) rfl ?_
      refine .opp (P.pickF .t1 .t0) rfl ?_
      refine .nil ?_
      subst hj5
      exact .stj () (.cons Mm.m0 (.cons Mm.m1 (.cons Mm.m2 (.cons Mm.m3 (.cons Mm.m4 .nil))))) (.of .nil) (.cons Mm.m0 .nil)
  · clear hj5
    refine .cond .t0 (fun c7 => ?_) (fun c7 => ?_)
    · rw [if_pos c7] at h
      refine .seq ?_
      refine .reg rfl ?_
      refine .opp (P.asg .k) rfl ?_
      refine .opp (P.asg .k) rfl ?_
      refine .nil ?_
      refine .then ?_
      refine .ret ?_
      refine .thr ?_
      cases h
      exact .finw () (.r2 rfl (.tmp .g1) (.tmp .g0)) trivial (Ls.of .nil) .nil
    · rw [if_neg (ne_true_of_eq_false c7)] at h
      refine .skip ?_
      refine .then ?_
      refine .seq ?_
      refine .reg rfl ?_
      refine .opp (P.mov .t3) rfl ?_
      obtain ⟨hb8, h⟩ := grd_eq h
      refine .opp (P.slst (li := (some 1)) (hj := none) .t0 (.some .k) .none runUnderlying9 hb8) rfl ?_
      obtain ⟨hb10, h⟩ := grd_eq h
      refine .opg (G.s2b (e := 5) .t0 (by kernel_rfl) (by kernel_rfl) (by kernel_rfl) hb10 rfl) rfl fun u9 _ => ?_
      obtain ⟨r11, hr12, h⟩ := bnd_eq h
      refine .opg (G.call call97 (.cons .t0 (.cons .k .nil)) (S_blob_Cut u9 ((a2.extract (1 : Int).toNat a2.size).data.toList) 8 r11 hr12) .nil (.cons Mm.m0 .nil) (fun _ _ => rfl) (fun _ _ => rfl) rfl) rfl fun ⟨u13, w14⟩ _ => ?_
      refine .opp (P.asg .t0) rfl ?_
      refine .nil ?_
      refine .then ?_
      refine .seq ?_
      refine .reg rfl ?_
      refine .opp (P.asg .k) rfl ?_
      refine .nil ?_
      refine .then ?_
      refine .seq ?_
      refine .seq ?_
      refine .reg rfl ?_
      refine .opp (P.mov .g1) rfl ?_
      refine .frz .k0 ?_
      refine .gzl Mm.m1 fun hz15 => ?_
      obtain ⟨hb16, h⟩ := grd_eq h
      refine .capq Mm.m0 fun hc18 => ?_
      refine .opg (G.slr (li := none) (hj := (some 15)) (mk := none) .t0 .none (.some .k) .none Mm.m0 hc18 runUnderlying146 sizeOf131 (by simpa [zip_len hz15] using hb16) rfl) rfl fun u17 hu19 => ?_
      refine .rhead (q := rows 1 u17 (List.zipWith (fun (_ : List UInt8) z => [z]) (slc r11 0 (15 : Int).toNat) (slc w14 0 (15 : Int).toNat))) (fun _ hh => by simpa [slc_zip, zip_len hz15] using hh) ?_
      refine .gzs 0 (15 : Int).toNat Mm.m2 ?_
      refine .gzl Mm.m0 fun hz20 => ?_
      refine .op (V.lnr (n := (slc r11 0 (15 : Int).toNat).length) .g0 Mm.m1 (zip_len hz20) runUnderlying146) rfl ?_
      refine .opp (P.mov .k) rfl ?_
      refine .nil ?_
      refine .then ?_
      refine .block ?_
      refine .lnil 9 1 ?_
      obtain ⟨o26, ho27, h⟩ := bnd_eq h
      refine .gzl Mm.m0 fun hz36 => ?_
      refine .lenq Mm.m1 fun hl33 => ?_
      rw [zip_len hz36] at hl33
      refine .loopR (γ := Value) (fun i22 (s23 : (List ByteArray)) z24 => [(29, N (i22 : Int)), (28, N ((slc r11 0 (15 : Int).toNat).length : Int)), (27, u17), (10, z24), (9, u13), (8, N r1), (0, .string a0), (1, v01)]) (fun (s23 : (List ByteArray)) z24 => [lst 9 1 z24 (s23.map (fun x => [.string x]))]) (fun (s23 : (List ByteArray)) z24 => [gz (fun (x : List UInt8) z => rows 1 z (x.map (fun x => [B8 x]))) (slc r11 0 (15 : Int).toNat) (slc w14 0 (15 : Int).toNat), rows 1 u17 (List.zipWith (fun (_ : List UInt8) z => [z]) (slc r11 0 (15 : Int).toNat) (slc w14 0 (15 : Int).toNat)), gz (fun (x : List UInt8) z => rows 1 z (x.map (fun x => [B8 x]))) r11 w14, rows 1 u13 (List.zipWith (fun (_ : List UInt8) z => [z]) r11 w14), rows 1 v01 (a1.map (fun x => [B8 x]))]) nilSl ho27 (.cons Mm.m0 (.cons Mm.m1 (.cons Mm.m2 (.cons Mm.m3 (.cons Mm.m4 (.cons Mm.m5 (.cons Mm.m6 (.cons Mm.m7 .nil)))))))) (.of (.cons .k0 .nil)) (.cons Mm.m0 (.cons Mm.m1 (.cons Mm.m3 (.cons Mm.m2 (.cons Mm.m5 .nil))))) (fun i22 s23 z24 hi34 hr30 => ?_)
      refine .seq ?_
      refine .reg rfl ?_
      refine .opp (P.bin (v := Bo (decide ((i22 : Int) < ((slc r11 0 (15 : Int).toNat).length : Nat)))) .g0 .g1 .lss) rfl ?_
      refine .nil ?_
      refine .then ?_
      refine .seq ?_
      refine .cond .t0 (fun c35 => ?_) (fun c35 => ?_)
      · obtain ⟨e25, hx32⟩ := get_of c35
        obtain ⟨ct31, hc28, hn29⟩ := loopR_at hx32 hr30
        refine .gzx (D := (fun (_ : List UInt8) z => [z])) (q := fun z_ => rows 1 z_ (e25.map (fun x => [B8 x]))) Mm.m0 hx32 (fun _ => rfl) fun u21 _ hx37 => ?_
        refine .skip ?_
        refine .then ?_
        refine .seq ?_
        refine .block ?_
        refine .seq ?_
        refine .reg rfl ?_
        refine .ixq Mm.m2 hx37 fun p38 q39 hq40 => ?_
        refine .opp (P.ixi (i := i22) .g0 rfl .g2 hq40 runUnderlying146 sizeOf131) rfl ?_
        refine .op (V.ldx0 (u := u21) .t0 hq40 Mm.m2 hx37 (.one isAgg131 rfl)) rfl ?_
        refine .opp (P.asg .t0) rfl ?_
        refine .nil ?_
        refine .then ?_
        refine .reg rfl ?_
        refine .opp (P.mov .g4) rfl ?_
        refine .opp (P.mov .t1) rfl ?_
        refine .op (V.b2s (l := e25) (e := 5) .t0 Mm.m0 (by kernel_rfl) (by kernel_rfl) (by kernel_rfl)) rfl ?_
        refine .opg (G.bsl (cs := [.string (⟨⟨e25⟩⟩ : ByteArray)]) .t0 runUnderlying152 sizeOf9 zeroValue9 rfl rfl rfl rfl rfl) rfl fun u41 _ => ?_
        obtain ⟨hb43, hc28⟩ := grd_eq hc28
        refine .opg (G.app (by_ := 16) .t1 .t0 .k1 (.inr (.inr ⟨_, Mm.m0⟩)) runUnderlying152 runUnderlying152 sizeOf9 typeInfo9 rfl rfl zeroValue9 rfl rfl (by simpa using hb43) rfl) rfl fun u42 _ => ?_
        refine .conseq .k0 (q := lst 9 1 u42 ((s23 ++ ([(⟨⟨e25⟩⟩ : ByteArray)] : List ByteArray)).map (fun x => [.string x]))) (fun _ hh => by simpa [List.map_append] using hh) ?_
        refine .drop .k4 ?_
        refine .opp (P.asg .t0) rfl ?_
        refine .nil ?_
        refine .inn ?_
        refine .then ?_
        refine .reg rfl ?_
        refine .opp (P.bin .g1 .k (.addc (inc_ok (lt_of_get hx32) hl33))) rfl ?_
        refine .drop .k2 ?_
        refine .opp (P.mov .t0) rfl ?_
        refine .nil ?_
        cases hc28
        exact .rdR ((s23 ++ ([(⟨⟨e25⟩⟩ : ByteArray)] : List ByteArray))) u42 hn29 (lt_of_get hx32) (.cons Mm.m0 (.cons Mm.m2 (.cons Mm.m3 (.cons Mm.m1 (.cons Mm.m4 (.cons Mm.m5 (.cons Mm.m6 (.cons Mm.m7 .nil)))))))) (.of (.cons .k0 .nil)) (.cons Mm.m1 (.cons Mm.m2 (.cons Mm.m3 (.cons Mm.m4 (.cons Mm.m5 .nil)))))
      · obtain rfl := loopR_end (le_of_not c35) hr30
        have h := dn_on h
        refine .exit ?_
        refine .thx ?_
        refine .thx ?_
        refine .inb ?_
        refine .then ?_
        refine .seq ?_
        refine .seq ?_
        refine .drawl [] [gz (fun (x : List UInt8) z => rows 1 z (x.map (fun x => [B8 x]))) (slc r11 0 (15 : Int).toNat) (slc w14 0 (15 : Int).toNat), rows 1 u17 (List.zipWith (fun (_ : List UInt8) z => [z]) (slc r11 0 (15 : Int).toNat) (slc w14 0 (15 : Int).toNat)), gz (fun (x : List UInt8) z => rows 1 z (x.map (fun x => [B8 x]))) r11 w14, rows 1 u13 (List.zipWith (fun (_ : List UInt8) z => [z]) r11 w14), rows 1 v01 (a1.map (fun x => [B8 x]))] (Ls.of .nil) (Rs.cons Mm.m0 (Rs.cons Mm.m1 (Rs.cons Mm.m2 (Rs.cons Mm.m3 (Rs.cons Mm.m4 Rs.nil))))) 9 (.on 0 .pu (.on 1 .pu (.on 3 .pu (.on 4 .pu (.on 5 .pu (.on 7 .pu (.on 2 .go (.on 6 .go (.on 8 .pu .nl))))))))) follows_mixed (.thn (.thn .body)) (by kernel_rfl) ?_
        refine .dpu rfl (.n rfl) (P.mov .t7) rfl rfl ?_
        refine .dpu rfl (.n rfl) (P.mov .t4) rfl rfl ?_
        refine .dpu rfl (.n rfl) (P.mov .g6) rfl rfl ?_
        refine .dpu rfl (.n rfl) (P.mov .t6) rfl rfl ?_
        refine .gzl Mm.m2 fun hz44 => ?_
        obtain ⟨hb45, h⟩ := grd_eq h
        refine .slnq Mm.m3 fun hq49 => ?_
        simp only [zip_len hz44] at hq49
        refine .dpu rfl (.n rfl) (P.slp (li := (some 15)) (hj := none) (mk := none) .t0 (.some .k) .none .none hq49 runUnderlying146 sizeOf131 (by simpa [zip_len hz44] using hb45)) rfl rfl ?_
        refine .slgen Mm.m3 (by simpa [zip_len hz44] using hb45) fun u46 => ?_
        refine .rhead (q := rows 1 u46 (List.zipWith (fun (_ : List UInt8) z => [z]) (slc r11 (15 : Int).toNat r11.length) (slc w14 (15 : Int).toNat r11.length))) (fun _ hh => by simpa [slc_zip, zip_len hz44] using hh) ?_
        refine .gzs (15 : Int).toNat r11.length Mm.m3 ?_
        refine .dpu rfl (.n rfl) (P.mov .t8) rfl rfl ?_
        refine .frz .k0 ?_
        obtain ⟨r50, hr51, h⟩ := bnd_eq h
        refine .dgo rfl (.n rfl) (G.call call99 (.cons .t4 (.cons .t3 .nil)) (S_ots_Open v01 a1 z24 s23 r50 hr51) .nil (.cons Mm.m7 (.cons Mm.m0 .nil)) (fun _ _ => rfl) (fun _ _ => rfl) rfl) (.inr fun _ _ _ h => (h.imp (Ls.of .nil)).ro (Rs.cons Mm.m3 (Rs.cons Mm.m4 (Rs.cons Mm.m5 (Rs.cons Mm.m6 (Rs.cons Mm.m7 Rs.nil)))))) fun _ _ => ?_
        obtain ⟨r52, hr53, h⟩ := bnd_eq h
        refine .dgo rfl (.n rfl) (G.call call98 (.cons .t0 (.cons .t2 (.cons .t1 .nil))) (S_mss_climb r50 r1 u46 (slc r11 (15 : Int).toNat r11.length) (slc w14 (15 : Int).toNat r11.length) r52 hr53) .nil (.cons Mm.m2 (.cons Mm.m1 .nil)) (fun _ _ => rfl) (fun _ _ => rfl) rfl) (.inr fun _ _ _ h => (h.imp (Ls.of .nil)).ro (Rs.cons Mm.m3 (Rs.cons Mm.m4 (Rs.cons Mm.m5 (Rs.cons Mm.m6 (Rs.cons Mm.m7 Rs.nil)))))) fun _ _ => ?_
        refine .dpu rfl (.n rfl) (P.bin .t0 .t0 .str_neq) rfl rfl ?_
        refine .dnil ?_
        refine .then ?_
        refine .cond .t0 (fun c54 => ?_) (fun c54 => ?_)
        · rw [if_pos c54] at h
          refine .seq ?_
          refine .reg rfl ?_
          refine .opp (P.asg .k) rfl ?_
          refine .opp (P.asg .k) rfl ?_
          refine .nil ?_
          refine .then ?_
          refine .ret ?_
          refine .thr ?_
          cases h
          exact .finw () (.r2 rfl (.tmp .g1) (.tmp .g0)) trivial (Ls.of .nil) .nil
        · rw [if_neg (ne_true_of_eq_false c54)] at h
          refine .skip ?_
          refine .then ?_
          refine .seq ?_
          refine .reg rfl ?_
          refine .opp (P.mov .t3) rfl ?_
          refine .opp (P.asg .t0) rfl ?_
          refine .opp (P.asg .k) rfl ?_
          refine .nil ?_
          refine .then ?_
          refine .ret ?_
          cases h
          exact .finw () (.r2 rfl (.tmp .g1) (.tmp .g0)) trivial (Ls.of .nil) .nil
attribute [irreducible] mss_Verify
noncomputable def escrow_signed (a0 : api_Tx) (a1 : Int) : Option (Bool) :=
  Option.bind (deal_Key a0.Inv) fun r2 => Option.bind (deal_Payload a1 r2 a0.Fee) fun r4 => Option.bind (mss_Verify a0.Inv.Root r4 a0.Sig) fun r7 => some r7.2
set_option maxRecDepth 20000 in
set_option maxHeartbeats 1000000 in
theorem S_escrow_signed (a0 : api_Tx) (a1 : Int) (r : Bool) (h : escrow_signed a0 a1 = some r) :
    SpecF Tryz.prog 79 [Ag (api_Tx.cs a0), N a1] [] [] (fun z : Unit => True) (fun z => Bo r) (fun z M =>  M) (fun z M =>  M) := by
  refine .of func79 rfl ntmps79 rfl fun w0 D0 G0 => ?_
  unfold escrow_signed at h
  refine .seq ?_
  refine .reg rfl ?_
  refine .opx (X.box (cs := (api_Tx.cs a0)) .t0 rfl) rfl fun b1 => ?_
  refine .op0 (OpP.toV (P.asg .k)) rfl ?_
  refine .nil ?_
  refine .then ?_
  refine .seq ?_
  refine .draw 18 (.on 0 .pu (.on 1 .pu (.on 3 .pu (.on 4 .pu (.on 7 .pu (.on 10 .pu (.on 2 .ld (.on 5 .ld (.on 8 .ld (.on 11 .ld (.on 6 .go (.on 9 .go (.on 12 .go (.on 13 .pu (.on 14 .pu (.on 15 .pu (.on 16 .go (.on 17 .go .nl)))))))))))))))))) follows_mixed (.thn .body) (by kernel_rfl) ?_
  refine .dpu rfl (.n rfl) (P.fa .g0 fa_36_5 rfl) rfl rfl ?_
  refine .dpu rfl (.n rfl) (P.fa .t0 fa_32_1 rfl) rfl rfl ?_
  refine .dpu rfl (.n rfl) (P.mov .t2) rfl rfl ?_
  refine .dpu rfl (.n rfl) (P.fa .g2 fa_36_5 rfl) rfl rfl ?_
  refine .dpu rfl (.n rfl) (P.fa .g3 fa_36_7 rfl) rfl rfl ?_
  refine .dpu rfl (.n rfl) (P.fa .t4 fa_36_8 rfl) rfl rfl ?_
  refine .dld rfl (.n rfl) (V.ld (v := .string a0.Inv.Root) .t4 .k0 (.one isAgg9 rfl)) (fun _ h => h) rfl rfl ?_
  refine .dld rfl (.n rfl) (V.ld (v := Ag (api_Inv.cs a0.Inv)) .t3 .k0 (.agg isAgg32 sizeOf32 rfl rfl)) (fun _ h => h) rfl rfl ?_
  refine .dld rfl (.n rfl) (V.ld (v := Ag (api_Wide.cs a0.Fee)) .t3 .k0 (.agg isAgg30 sizeOf30 rfl rfl)) (fun _ h => h) rfl rfl ?_
  refine .dld rfl (.n rfl) (V.ld (v := .string a0.Sig) .t3 .k0 (.one isAgg9 rfl)) (fun _ h => h) rfl rfl ?_
  obtain ⟨r2, hr3, h⟩ := bnd_eq h
  refine .dgo rfl (.n rfl) (G.call call75 (.cons .t2 .nil) (S_deal_Key a0.Inv r2 hr3) .nil .nil (fun _ _ => rfl) (fun _ _ => rfl) rfl) (.inr fun _ _ _ h => h) fun _ _ => ?_
  obtain ⟨r4, hr5, h⟩ := bnd_eq h
  refine .dgo rfl (.n rfl) (G.call call89 (.cons .t4 (.cons .t0 (.cons .t1 .nil))) (S_deal_Payload a1 r2 a0.Fee r4 hr5) .nil .nil (fun _ _ => rfl) (fun _ _ => rfl) rfl) (.inr fun _ _ _ h => (h.imp (Ls.of (.cons .k1 .nil))).ro Rs.nil) fun u6 _ => ?_
  refine .frz .k0 ?_
  obtain ⟨r7, hr8, h⟩ := bnd_eq h
  refine .dgo rfl (.n rfl) (G.call call88 (.cons .t2 (.cons .t0 (.cons .t0 .nil))) (S_mss_Verify a0.Inv.Root u6 r4 a0.Sig r7 hr8) .nil (.cons Mm.m0 .nil) (fun _ _ => rfl) (fun _ _ => rfl) rfl) (.inr fun _ _ _ h => (h.imp (Ls.of (.cons .k0 .nil))).ro Rs.nil) fun _ _ => ?_
  refine .dpu rfl (.n rfl) (P.mov .t0) rfl rfl ?_
  refine .dpu rfl (.n rfl) (P.ext (v := N r7.1) .g0 rfl) rfl rfl ?_
  refine .dpu rfl (.n rfl) (P.ext (v := Bo r7.2) .t1 rfl) rfl rfl ?_
  refine .dgo rfl (.n rfl) (OpV.g0 (OpP.toV (P.asg .t1)) rfl) (.inr fun _ _ _ h => (h.imp (Ls.of (.cons .k0 .nil))).ro Rs.nil) fun _ _ => ?_
  refine .dgo rfl (.n rfl) (OpV.g (OpP.toV (P.asg .t0)) rfl) (.inr fun _ _ _ h => (h.imp (Ls.of (.cons .k0 .nil))).ro Rs.nil) fun _ _ => ?_
  refine .dnil ?_
  refine .then ?_
  refine .seq ?_
  refine .reg rfl ?_
  refine .opp (P.mov .t0) rfl ?_
  refine .opp (P.asg .t0) rfl ?_
  refine .nil ?_
  refine .then ?_
  refine .ret ?_
  cases h
  exact .finw () (.r1 rfl (.tmp .g0)) trivial (Ls.of .nil) .nil
attribute [irreducible] escrow_signed
noncomputable def escrow_State_fulfil (a0 : escrow_State) (a1 : api_Tx) : Option (Px (escrow_State)) :=
  pxe (escrow_State_lock a0 a1) (fun e4 => some (.er e4)) fun r2 => pxe (escrow_need (decide (a0.Time < a1.Var.Expiry)) 34) (fun e10 => some (.er e10)) fun r8 => pxe (escrow_need (wide_Sub a1.Var.Amount a1.Fee).2 36) (fun e14 => some (.er e14)) fun r12 => Option.bind (escrow_signed a1 1) fun r15 => pxe (escrow_need r15 35) (fun e19 => some (.er e19)) fun r17 => Option.bind (if (decide (a0.Side = 1)) = true then (pxe (escrow_put_int a0.Purse a1.Inv.To a1.Inv.Recv (wide_Sub a1.Var.Amount a1.Fee).1) (fun e26 => Option.map Lo.rt (some (.er e26))) fun r24 => pxe (escrow_put_int r24 a1.From a1.Inv.Recv a1.Fee) (fun e31 => Option.map Lo.rt (some (.er e31))) fun r29 => pxe (escrow_State_free (⟨a0.Side, a0.Time, r29, a0.Vault, a0.Nonces, a0.Held, a0.Burnt, a0.Locks⟩ : escrow_State) a1.Inv.Recv a1.Var.Amount) (fun e36 => Option.map Lo.rt (some (.er e36))) fun r34 => some (Lo.dn r34)) else (pxe (escrow_put_int a0.Vault a1.Inv.Router a1.Inv.Send a1.Var.Amount) (fun e41 => Option.map Lo.rt (some (.er e41))) fun r39 => some (Lo.dn ⟨a0.Side, a0.Time, a0.Purse, r39, a0.Nonces, a0.Held, a0.Burnt, a0.Locks⟩))) fun o49 => Lo.on o49 fun (y20 : escrow_State) => Option.bind (at_ y20.Locks ((r2.1 : Nat) : Int)) fun (x44 : escrow_Lock) => some ((.ok ((⟨y20.Side, y20.Time, y20.Purse, y20.Vault, y20.Nonces, y20.Held, y20.Burnt, (y20.Locks.set r2.1 (⟨x44.Key, x44.Digest, 2⟩ : escrow_Lock))⟩ : escrow_State))))
set_option maxRecDepth 20000 in
set_option maxHeartbeats 1000000 in
theorem S_escrow_State_fulfil (b00 : Nat) (a0 : escrow_State) (z00a : Value) (a1 : api_Tx) (r : Px (escrow_State)) (h : escrow_State_fulfil a0 a1 = some r) :
    SpecX Tryz.prog 66 [pt b00 0, Ag (api_Tx.cs a1)] [blk b00 45 (escrow_State.cs a0 z00a), lst 76 3 z00a (a0.Locks.map escrow_Lock.cs)] [] (fun (r : escrow_State) (z : Unit) => True) mustCh r (fun r z => Tu []) (fun r z M => blk b00 45 (escrow_State.cs r z00a) :: lst 76 3 z00a (r.Locks.map escrow_Lock.cs) ::  M) (fun r z M =>  M) := by
  refine .of func66 rfl ntmps66 rfl fun w0 D0 G0 => ?_
  unfold escrow_State_fulfil at h
  refine .seq ?_
  refine .reg rfl ?_
  refine .opx (X.box (cs := (api_Tx.cs a1)) .t1 rfl) rfl fun b1 => ?_
  refine .nil ?_
  refine .then ?_
  refine .seq ?_
  refine .reg rfl ?_
  refine .opp (P.mov .g1) rfl ?_
  refine .op (V.ld (v := Ag (api_Tx.cs a1)) .g1 .k0 (.agg isAgg36 sizeOf36 rfl rfl)) rfl ?_
  rcases pxe_eq h with ⟨e4, hr3, h⟩ | ⟨r2, hr3, h⟩
  · refine .opg (G.callx call78 (.cons .t1 (.cons .t0 .nil)) (S_escrow_State_lock b00 a0 z00a a1 (.er e4) hr3).er (.cons .k1 (.cons .k1 .nil)) .nil ?_) rfl fun _ h_ => h_.elim
    refine .thp ?_
    cases h
    exact .xer rfl
  · refine .opg (G.call call78 (.cons .t1 (.cons .t0 .nil)) (S_escrow_State_lock b00 a0 z00a a1 (.ok r2) hr3).ok (.cons .k1 (.cons .k1 .nil)) .nil (fun _ _ => rfl) (fun _ _ => rfl) rfl) rfl fun ⟨b5, q6⟩ hq7 => ?_
    refine .opp (P.asg .t0) rfl ?_
    refine .nil ?_
    refine .then ?_
    refine .seq ?_
    refine .draw 9 (.on 0 .pu (.on 1 .pu (.on 2 .pu (.on 4 .pu (.on 5 .pu (.on 3 .ld (.on 6 .ld (.on 7 .pu (.on 8 .go .nl))))))))) follows_mixed (.thn .bodx) (by kernel_rfl) ?_
    refine .dpu rfl (.n rfl) (P.mov .g2) rfl rfl ?_
    refine .dpu rfl (.n rfl) (P.nilc .t0) rfl rfl ?_
    refine .dpu rfl (.n rfl) (P.fa .t0 fa_45_1 rfl) rfl rfl ?_
    refine .dpu rfl (.n rfl) (P.fa .g2 fa_36_6 rfl) rfl rfl ?_
    refine .dpu rfl (.n rfl) (P.fa .t0 fa_34_1 rfl) rfl rfl ?_
    refine .dld rfl (.n rfl) (V.ld (v := N a0.Time) .t1 .k0 (.one isAgg3 rfl)) (fun _ h => h) rfl rfl ?_
    refine .dld rfl (.n rfl) (V.ld (v := N a1.Var.Expiry) .t1 .k2 (.one isAgg3 rfl)) (fun _ h => h) rfl rfl ?_
    refine .dpu rfl (.n rfl) (P.bin .t1 .t0 .lss) rfl rfl ?_
    rcases pxe_eq h with ⟨e10, hr9, h⟩ | ⟨r8, hr9, h⟩
    · refine .dgo rfl (.n rfl) (G.callx call72 (.cons .t0 (.cons .k .nil)) (S_escrow_need (decide (a0.Time < a1.Var.Expiry)) 34 (.er e10) hr9).er .nil .nil ?_) (.inr fun _ _ h_ _ => h_.elim) fun _ h_ => h_.elim
      refine .thp ?_
      cases h
      exact .xer rfl
    · refine .dgo rfl (.n rfl) (G.call call72 (.cons .t0 (.cons .k .nil)) (S_escrow_need (decide (a0.Time < a1.Var.Expiry)) 34 (.ok r8) hr9).ok .nil .nil (fun _ _ => rfl) (fun _ _ => rfl) rfl) (.inr fun _ _ _ h => h) fun _ _ => ?_
      refine .drop .k0 ?_
      refine .dnil ?_
      refine .then ?_
      refine .seq ?_
      refine .reg rfl ?_
      refine .opp (P.fa .g1 fa_36_6 rfl) rfl ?_
      refine .opp (P.fa .t0 fa_34_0 rfl) rfl ?_
      refine .op (V.ld (v := Ag (api_Wide.cs a1.Var.Amount)) .t0 .k2 (.agg isAgg30 sizeOf30 rfl rfl)) rfl ?_
      refine .opp (P.fa .g2 fa_36_7 rfl) rfl ?_
      refine .op (V.ld (v := Ag (api_Wide.cs a1.Fee)) .t0 .k2 (.agg isAgg30 sizeOf30 rfl rfl)) rfl ?_
      refine .opg (G.call call39 (.cons .t1 (.cons .t0 .nil)) (S_wide_Sub a1.Var.Amount a1.Fee _ rfl) .nil .nil (fun _ _ => rfl) (fun _ _ => rfl) rfl) rfl fun _ _ => ?_
      refine .opp (P.mov .t0) rfl ?_
      refine .opp (P.ext (v := Ag (api_Wide.cs (wide_Sub a1.Var.Amount a1.Fee).1)) .g0 rfl) rfl ?_
      refine .opp (P.ext (v := Bo (wide_Sub a1.Var.Amount a1.Fee).2) .t1 rfl) rfl ?_
      refine .opx (X.alc (cs := (api_Wide.cs ⟨0, 0, 0, 0⟩)) zeroValue30 rfl) rfl fun b11 => ?_
      refine .opg (G.str .t2 .g0 .k0 (.mk (cs' := (api_Wide.cs (wide_Sub a1.Var.Amount a1.Fee).1)) sizeOf30 rfl rfl rfl rfl)) rfl fun _ _ => ?_
      refine .opp (P.asg .t1) rfl ?_
      refine .nil ?_
      refine .then ?_
      refine .seq ?_
      refine .reg rfl ?_
      refine .opp (P.mov .t0) rfl ?_
      rcases pxe_eq h with ⟨e14, hr13, h⟩ | ⟨r12, hr13, h⟩
      · refine .opg (G.callx call72 (.cons .t0 (.cons .k .nil)) (S_escrow_need (wide_Sub a1.Var.Amount a1.Fee).2 36 (.er e14) hr13).er .nil .nil ?_) rfl fun _ h_ => h_.elim
        refine .thp ?_
        cases h
        exact .xer rfl
      · refine .opg (G.call call72 (.cons .t0 (.cons .k .nil)) (S_escrow_need (wide_Sub a1.Var.Amount a1.Fee).2 36 (.ok r12) hr13).ok .nil .nil (fun _ _ => rfl) (fun _ _ => rfl) rfl) rfl fun _ _ => ?_
        refine .drop .k0 ?_
        refine .nil ?_
        refine .then ?_
        refine .seq ?_
        refine .reg rfl ?_
        refine .op (V.ld (v := Ag (api_Tx.cs a1)) .g2 .k3 (.agg isAgg36 sizeOf36 rfl rfl)) rfl ?_
        obtain ⟨r15, hr16, h⟩ := bnd_eq h
        refine .opg (G.call call79 (.cons .t0 (.cons .k .nil)) (S_escrow_signed a1 1 r15 hr16) .nil .nil (fun _ _ => rfl) (fun _ _ => rfl) rfl) rfl fun _ _ => ?_
        rcases pxe_eq h with ⟨e19, hr18, h⟩ | ⟨r17, hr18, h⟩
        · refine .opg (G.callx call72 (.cons .t0 (.cons .k .nil)) (S_escrow_need r15 35 (.er e19) hr18).er .nil .nil ?_) rfl fun _ h_ => h_.elim
          refine .thp ?_
          cases h
          exact .xer rfl
        · refine .opg (G.call call72 (.cons .t0 (.cons .k .nil)) (S_escrow_need r15 35 (.ok r17) hr18).ok .nil .nil (fun _ _ => rfl) (fun _ _ => rfl) rfl) rfl fun _ _ => ?_
          refine .drop .k0 ?_
          refine .nil ?_
          refine .then ?_
          obtain ⟨o49, hj22, h⟩ := bnd_eq h
          refine .cuto (γ := Unit) h (E1 := fun (y20 : escrow_State) _ => [(4, pt b5 q6)]) (L1 := fun (y20 : escrow_State) _ => [blk b00 45 (escrow_State.cs y20 z00a), lst 76 3 z00a (y20.Locks.map escrow_Lock.cs)]) (R1 := fun (y20 : escrow_State) _ => []) ?_ (fun y20 _ h' => ?_)
          · refine .seq ?_
            refine .reg rfl ?_
            refine .opp (P.mov .g3) rfl ?_
            refine .opp (P.nilc .t0) rfl ?_
            refine .opp (P.fa .t0 fa_45_0 rfl) rfl ?_
            refine .op (V.ld (v := N a0.Side) .t0 .k1 (.one isAgg3 rfl)) rfl ?_
            refine .opp (P.bin .t0 .k .eql) rfl ?_
            refine .nil ?_
            refine .then ?_
            refine .cond .t0 (fun c23 => ?_) (fun c23 => ?_)
            · rw [if_pos c23] at hj22
              refine .seq ?_
              refine .drawl [blk b11 30 (api_Wide.cs (wide_Sub a1.Var.Amount a1.Fee).1), lst 76 3 z00a (a0.Locks.map escrow_Lock.cs), blk b1 36 (api_Tx.cs a1)] [] (Ls.of (.cons .k0 (.cons .k1 (.cons .k1 .nil)))) Rs.nil 11 (.on 0 .pu (.on 1 .pu (.on 2 .pu (.on 3 .pu (.on 4 .pu (.on 6 .pu (.on 7 .pu (.on 5 .ld (.on 8 .ld (.on 9 .ld (.on 10 .go .nl))))))))))) follows_mixed (.thn (.thn .bodx)) (by kernel_rfl) ?_
              refine .dpu rfl (.n rfl) (P.mov .g3) rfl rfl ?_
              refine .dpu rfl (.n rfl) (P.nilc .t0) rfl rfl ?_
              refine .dpu rfl (.n rfl) (P.fa .t0 fa_45_2 rfl) rfl rfl ?_
              refine .dpu rfl (.n rfl) (P.fa .g3 fa_36_5 rfl) rfl rfl ?_
              refine .dpu rfl (.n rfl) (P.fa .t0 fa_32_5 rfl) rfl rfl ?_
              refine .dpu rfl (.n rfl) (P.fa .g4 fa_36_5 rfl) rfl rfl ?_
              refine .dpu rfl (.n rfl) (P.fa .t0 fa_32_4 rfl) rfl rfl ?_
              refine .dld rfl (.n rfl) (V.ld (v := N a1.Inv.To) .t1 .k2 (.one isAgg3 rfl)) (fun _ h => (h.imp (Ls.of (.cons .k0 (.cons .k1 (.cons .k1 .nil))))).ro Rs.nil) rfl rfl ?_
              refine .dld rfl (.n rfl) (V.ld (v := N a1.Inv.Recv) .t1 .k2 (.one isAgg3 rfl)) (fun _ h => (h.imp (Ls.of (.cons .k0 (.cons .k1 (.cons .k1 .nil))))).ro Rs.nil) rfl rfl ?_
              refine .dld rfl (.n rfl) (V.ld (v := Ag (api_Wide.cs (wide_Sub a1.Var.Amount a1.Fee).1)) .t3 .k0 (.agg isAgg30 sizeOf30 rfl rfl)) (fun _ h => (h.imp (Ls.of (.cons .k0 (.cons .k1 (.cons .k1 .nil))))).ro Rs.nil) rfl rfl ?_
              refine .conseq .k1 (q := blk b00 45 ((List.take 2 (escrow_State.cs a0 z00a)) ++ (purse_Book.cs a0.Purse) ++ (List.drop (2 + 64) (escrow_State.cs a0 z00a)))) (fun _ h_ => by exact h_) ?_
              rcases pxe_eq hj22 with ⟨e26, hr25, hj22⟩ | ⟨r24, hr25, hj22⟩
              · refine .dgo rfl (.n rfl) (G.callx call70 (.cons .t3 (.cons .t2 (.cons .t1 (.cons .t0 .nil)))) (S_escrow_put_int b00 2 45 (List.take 2 (escrow_State.cs a0 z00a)) (List.drop (2 + 64) (escrow_State.cs a0 z00a)) (by rfl) a0.Purse a1.Inv.To a1.Inv.Recv (wide_Sub a1.Var.Amount a1.Fee).1 (.er e26) hr25).er (.cons .k0 .nil) .nil ?_) (.inr fun _ _ h_ _ => h_.elim) fun _ h_ => h_.elim
                refine .thp ?_
                obtain ⟨x27, hx28, rfl⟩ := map_lrt hj22
                obtain rfl := rt_on h
                refine .thp ?_
                cases hx28
                exact .xer rfl
              · refine .dgo rfl (.n rfl) (G.call call70 (.cons .t3 (.cons .t2 (.cons .t1 (.cons .t0 .nil)))) (S_escrow_put_int b00 2 45 (List.take 2 (escrow_State.cs a0 z00a)) (List.drop (2 + 64) (escrow_State.cs a0 z00a)) (by rfl) a0.Purse a1.Inv.To a1.Inv.Recv (wide_Sub a1.Var.Amount a1.Fee).1 (.ok r24) hr25).ok (.cons .k0 .nil) .nil (fun _ _ => rfl) (fun _ _ => rfl) rfl) (.inr fun _ _ _ h => (h.imp (Ls.of (.cons .k1 (.cons .k1 (.cons .k1 .nil))))).ro Rs.nil) fun _ _ => ?_
                refine .conseq .k0 (q := blk b00 45 (escrow_State.cs ⟨a0.Side, a0.Time, r24, a0.Vault, a0.Nonces, a0.Held, a0.Burnt, a0.Locks⟩ z00a)) (fun _ h_ => by exact h_) ?_
                refine .drop .k0 ?_
                refine .dnil ?_
                refine .then ?_
                refine .seq ?_
                refine .drawl [blk b11 30 (api_Wide.cs (wide_Sub a1.Var.Amount a1.Fee).1), lst 76 3 z00a (a0.Locks.map escrow_Lock.cs), blk b1 36 (api_Tx.cs a1)] [] (Ls.of (.cons .k1 (.cons .k1 (.cons .k1 .nil)))) Rs.nil 11 (.on 0 .pu (.on 1 .pu (.on 2 .pu (.on 3 .pu (.on 5 .pu (.on 6 .pu (.on 8 .pu (.on 4 .ld (.on 7 .ld (.on 9 .ld (.on 10 .go .nl))))))))))) follows_mixed (.thn (.thn .bodx)) (by kernel_rfl) ?_
                refine .dpu rfl (.n rfl) (P.mov .g2) rfl rfl ?_
                refine .dpu rfl (.n rfl) (P.nilc .t0) rfl rfl ?_
                refine .dpu rfl (.n rfl) (P.fa .t0 fa_45_2 rfl) rfl rfl ?_
                refine .dpu rfl (.n rfl) (P.fa .g2 fa_36_0 rfl) rfl rfl ?_
                refine .dpu rfl (.n rfl) (P.fa .g3 fa_36_5 rfl) rfl rfl ?_
                refine .dpu rfl (.n rfl) (P.fa .t0 fa_32_4 rfl) rfl rfl ?_
                refine .dpu rfl (.n rfl) (P.fa .g4 fa_36_7 rfl) rfl rfl ?_
                refine .dld rfl (.n rfl) (V.ld (v := N a1.From) .t2 .k2 (.one isAgg3 rfl)) (fun _ h => (h.imp (Ls.of (.cons .k1 (.cons .k1 (.cons .k1 .nil))))).ro Rs.nil) rfl rfl ?_
                refine .dld rfl (.n rfl) (V.ld (v := N a1.Inv.Recv) .t2 .k2 (.one isAgg3 rfl)) (fun _ h => (h.imp (Ls.of (.cons .k1 (.cons .k1 (.cons .k1 .nil))))).ro Rs.nil) rfl rfl ?_
                refine .dld rfl (.n rfl) (V.ld (v := Ag (api_Wide.cs a1.Fee)) .t2 .k2 (.agg isAgg30 sizeOf30 rfl rfl)) (fun _ h => (h.imp (Ls.of (.cons .k1 (.cons .k1 (.cons .k1 .nil))))).ro Rs.nil) rfl rfl ?_
                refine .conseq .k0 (q := blk b00 45 ((List.take 2 (escrow_State.cs ⟨a0.Side, a0.Time, r24, a0.Vault, a0.Nonces, a0.Held, a0.Burnt, a0.Locks⟩ z00a)) ++ (purse_Book.cs r24) ++ (List.drop (2 + 64) (escrow_State.cs ⟨a0.Side, a0.Time, r24, a0.Vault, a0.Nonces, a0.Held, a0.Burnt, a0.Locks⟩ z00a)))) (fun _ h_ => by exact h_) ?_
                rcases pxe_eq hj22 with ⟨e31, hr30, hj22⟩ | ⟨r29, hr30, hj22⟩
                · refine .dgo rfl (.n rfl) (G.callx call70 (.cons .t3 (.cons .t2 (.cons .t1 (.cons .t0 .nil)))) (S_escrow_put_int b00 2 45 (List.take 2 (escrow_State.cs ⟨a0.Side, a0.Time, r24, a0.Vault, a0.Nonces, a0.Held, a0.Burnt, a0.Locks⟩ z00a)) (List.drop (2 + 64) (escrow_State.cs ⟨a0.Side, a0.Time, r24, a0.Vault, a0.Nonces, a0.Held, a0.Burnt, a0.Locks⟩ z00a)) (by rfl) r24 a1.From a1.Inv.Recv a1.Fee (.er e31) hr30).er (.cons .k0 .nil) .nil ?_) (.inr fun _ _ h_ _ => h_.elim) fun _ h_ => h_.elim
                  refine .thp ?_
                  obtain ⟨x32, hx33, rfl⟩ := map_lrt hj22
                  obtain rfl := rt_on h
                  refine .thp ?_
                  cases hx33
                  exact .xer rfl
                · refine .dgo rfl (.n rfl) (G.call call70 (.cons .t3 (.cons .t2 (.cons .t1 (.cons .t0 .nil)))) (S_escrow_put_int b00 2 45 (List.take 2 (escrow_State.cs ⟨a0.Side, a0.Time, r24, a0.Vault, a0.Nonces, a0.Held, a0.Burnt, a0.Locks⟩ z00a)) (List.drop (2 + 64) (escrow_State.cs ⟨a0.Side, a0.Time, r24, a0.Vault, a0.Nonces, a0.Held, a0.Burnt, a0.Locks⟩ z00a)) (by rfl) r24 a1.From a1.Inv.Recv a1.Fee (.ok r29) hr30).ok (.cons .k0 .nil) .nil (fun _ _ => rfl) (fun _ _ => rfl) rfl) (.inr fun _ _ _ h => (h.imp (Ls.of (.cons .k1 (.cons .k1 (.cons .k1 .nil))))).ro Rs.nil) fun _ _ => ?_
                  refine .conseq .k0 (q := blk b00 45 (escrow_State.cs ⟨a0.Side, a0.Time, r29, a0.Vault, a0.Nonces, a0.Held, a0.Burnt, a0.Locks⟩ z00a)) (fun _ h_ => by exact h_) ?_
                  refine .drop .k0 ?_
                  refine .dnil ?_
                  refine .then ?_
                  refine .reg rfl ?_
                  refine .opp (P.mov .t2) rfl ?_
                  refine .opp (P.fa .g2 fa_36_5 rfl) rfl ?_
                  refine .opp (P.fa .t0 fa_32_4 rfl) rfl ?_
                  refine .op (V.ld (v := N a1.Inv.Recv) .t0 .k3 (.one isAgg3 rfl)) rfl ?_
                  refine .opp (P.fa .t3 fa_36_6 rfl) rfl ?_
                  refine .opp (P.fa .t0 fa_34_0 rfl) rfl ?_
                  refine .op (V.ld (v := Ag (api_Wide.cs a1.Var.Amount)) .t0 .k3 (.agg isAgg30 sizeOf30 rfl rfl)) rfl ?_
                  rcases pxe_eq hj22 with ⟨e36, hr35, hj22⟩ | ⟨r34, hr35, hj22⟩
                  · refine .opg (G.callx call74 (.cons .t2 (.cons .t1 (.cons .t0 .nil))) (S_escrow_State_free b00 (⟨a0.Side, a0.Time, r29, a0.Vault, a0.Nonces, a0.Held, a0.Burnt, a0.Locks⟩ : escrow_State) z00a a1.Inv.Recv a1.Var.Amount (.er e36) hr35).er (.cons .k0 (.cons .k1 .nil)) .nil ?_) rfl fun _ h_ => h_.elim
                    obtain ⟨x37, hx38, rfl⟩ := map_lrt hj22
                    obtain rfl := rt_on h
                    refine .thp ?_
                    cases hx38
                    exact .xer rfl
                  · refine .opg (G.call call74 (.cons .t2 (.cons .t1 (.cons .t0 .nil))) (S_escrow_State_free b00 (⟨a0.Side, a0.Time, r29, a0.Vault, a0.Nonces, a0.Held, a0.Burnt, a0.Locks⟩ : escrow_State) z00a a1.Inv.Recv a1.Var.Amount (.ok r34) hr35).ok (.cons .k0 (.cons .k1 .nil)) .nil (fun _ _ => rfl) (fun _ _ => rfl) rfl) rfl fun _ _ => ?_
                    refine .drop .k0 ?_
                    refine .nil ?_
                    cases hj22
                    exact .sty r34 () (dn_on h) (.cons Mm.m0 .nil) (.of (.cons .k0 (.cons .k0 .nil))) .nil
            · rw [if_neg (ne_true_of_eq_false c23)] at hj22
              refine .drawl [blk b11 30 (api_Wide.cs (wide_Sub a1.Var.Amount a1.Fee).1), lst 76 3 z00a (a0.Locks.map escrow_Lock.cs), blk b1 36 (api_Tx.cs a1)] [] (Ls.of (.cons .k0 (.cons .k1 (.cons .k1 .nil)))) Rs.nil 13 (.on 0 .pu (.on 1 .pu (.on 2 .pu (.on 3 .pu (.on 4 .pu (.on 6 .pu (.on 7 .pu (.on 9 .pu (.on 10 .pu (.on 5 .ld (.on 8 .ld (.on 11 .ld (.on 12 .go .nl))))))))))))) follows_mixed (.thn .bodx) (by kernel_rfl) ?_
              refine .dpu rfl (.n rfl) (P.mov .t3) rfl rfl ?_
              refine .dpu rfl (.n rfl) (P.nilc .t0) rfl rfl ?_
              refine .dpu rfl (.n rfl) (P.fa .t0 fa_45_3 rfl) rfl rfl ?_
              refine .dpu rfl (.n rfl) (P.fa .g3 fa_36_5 rfl) rfl rfl ?_
              refine .dpu rfl (.n rfl) (P.fa .t0 fa_32_2 rfl) rfl rfl ?_
              refine .dpu rfl (.n rfl) (P.fa .g4 fa_36_5 rfl) rfl rfl ?_
              refine .dpu rfl (.n rfl) (P.fa .t0 fa_32_3 rfl) rfl rfl ?_
              refine .dpu rfl (.n rfl) (P.fa .t5 fa_36_6 rfl) rfl rfl ?_
              refine .dpu rfl (.n rfl) (P.fa .t0 fa_34_0 rfl) rfl rfl ?_
              refine .dld rfl (.n rfl) (V.ld (v := N a1.Inv.Router) .t2 .k2 (.one isAgg3 rfl)) (fun _ h => (h.imp (Ls.of (.cons .k0 (.cons .k1 (.cons .k1 .nil))))).ro Rs.nil) rfl rfl ?_
              refine .dld rfl (.n rfl) (V.ld (v := N a1.Inv.Send) .t2 .k2 (.one isAgg3 rfl)) (fun _ h => (h.imp (Ls.of (.cons .k0 (.cons .k1 (.cons .k1 .nil))))).ro Rs.nil) rfl rfl ?_
              refine .dld rfl (.n rfl) (V.ld (v := Ag (api_Wide.cs a1.Var.Amount)) .t2 .k2 (.agg isAgg30 sizeOf30 rfl rfl)) (fun _ h => (h.imp (Ls.of (.cons .k0 (.cons .k1 (.cons .k1 .nil))))).ro Rs.nil) rfl rfl ?_
              refine .conseq .k1 (q := blk b00 45 ((List.take 66 (escrow_State.cs a0 z00a)) ++ (purse_Book.cs a0.Vault) ++ (List.drop (66 + 64) (escrow_State.cs a0 z00a)))) (fun _ h_ => by exact h_) ?_
              rcases pxe_eq hj22 with ⟨e41, hr40, hj22⟩ | ⟨r39, hr40, hj22⟩
              · refine .dgo rfl (.n rfl) (G.callx call70 (.cons .t3 (.cons .t2 (.cons .t1 (.cons .t0 .nil)))) (S_escrow_put_int b00 66 45 (List.take 66 (escrow_State.cs a0 z00a)) (List.drop (66 + 64) (escrow_State.cs a0 z00a)) (by rfl) a0.Vault a1.Inv.Router a1.Inv.Send a1.Var.Amount (.er e41) hr40).er (.cons .k0 .nil) .nil ?_) (.inr fun _ _ h_ _ => h_.elim) fun _ h_ => h_.elim
                obtain ⟨x42, hx43, rfl⟩ := map_lrt hj22
                obtain rfl := rt_on h
                refine .thp ?_
                cases hx43
                exact .xer rfl
              · refine .dgo rfl (.n rfl) (G.call call70 (.cons .t3 (.cons .t2 (.cons .t1 (.cons .t0 .nil)))) (S_escrow_put_int b00 66 45 (List.take 66 (escrow_State.cs a0 z00a)) (List.drop (66 + 64) (escrow_State.cs a0 z00a)) (by rfl) a0.Vault a1.Inv.Router a1.Inv.Send a1.Var.Amount (.ok r39) hr40).ok (.cons .k0 .nil) .nil (fun _ _ => rfl) (fun _ _ => rfl) rfl) (.inr fun _ _ _ h => (h.imp (Ls.of (.cons .k1 (.cons .k1 (.cons .k1 .nil))))).ro Rs.nil) fun _ _ => ?_
                refine .conseq .k0 (q := blk b00 45 (escrow_State.cs ⟨a0.Side, a0.Time, a0.Purse, r39, a0.Nonces, a0.Held, a0.Burnt, a0.Locks⟩ z00a)) (fun _ h_ => by exact h_) ?_
                refine .drop .k0 ?_
                refine .dnil ?_
                cases hj22
                exact .sty ⟨a0.Side, a0.Time, a0.Purse, r39, a0.Nonces, a0.Held, a0.Burnt, a0.Locks⟩ () (dn_on h) (.cons Mm.m1 .nil) (.of (.cons .k0 (.cons .k1 .nil))) .nil
          · replace h := h'
            refine .reg rfl ?_
            refine .opp (P.mov .t0) rfl ?_
            refine .opp (P.nilc .t0) rfl ?_
            refine .opp (P.fa (off' := q6 + 2) .t0 fa_76_2 rfl) rfl ?_
            obtain ⟨x44, hx45, h⟩ := bnd_eq h
            obtain ⟨i46, hi47, hx45⟩ := at_eq hx45
            have hx48 : y20.Locks[r2.1]? = some x44 := by have hk_ : r2.1 = i46 := Int.ofNat.inj hi47; rw [hk_]; exact hx45
            refine .opg (G.stx (off := q6) (k := 2) (cs' := (escrow_Lock.cs ⟨x44.Key, x44.Digest, 2⟩)) .k .t0 (hq7.1) .k1 (map_get hx48) (.mk sizeOf3 rfl rfl rfl rfl)) rfl fun _ _ => ?_
            refine .conseq .k0 (q := lst 76 3 z00a ((y20.Locks.set r2.1 (⟨x44.Key, x44.Digest, 2⟩ : escrow_Lock)).map escrow_Lock.cs)) (fun _ h_ => by simpa [List.map_set] using h_) ?_
            refine .nil ?_
            cases h
            refine .xokn ?_
            exact .finwn () (.r0 rfl) trivial (Ls.of (.cons .k1 (.cons .k0 .nil))) .nil
attribute [irreducible] escrow_State_fulfil
noncomputable def escrow_State_cancel (a0 : escrow_State) (a1 : api_Tx) : Option (Px (escrow_State)) :=
  pxe (escrow_State_lock a0 a1) (fun e4 => some (.er e4)) fun r2 => Option.bind (if (decide (a0.Side = 1)) = true then (Option.bind (if (!(decide (a0.Time < a1.Var.Expiry))) = true then (pxe (escrow_need true 35) (fun e18 => Option.map Lo.rt (Option.map Lo.rt (some (.er e18)))) fun r16 => some (Lo.dn ())) else (Option.bind (escrow_signed a1 2) fun r23 => pxe (escrow_need r23 35) (fun e27 => Option.map Lo.rt (Option.map Lo.rt (some (.er e27)))) fun r25 => some (Lo.dn ()))) fun o37 => Lo.on o37 fun (_ : Unit) => pxe (escrow_put_int a0.Vault a1.Inv.Router a1.Inv.Recv a1.Var.Amount) (fun e34 => Option.map Lo.rt (some (.er e34))) fun r32 => some (Lo.dn ⟨a0.Side, a0.Time, a0.Purse, r32, a0.Nonces, a0.Held, a0.Burnt, a0.Locks⟩)) else (Option.bind (if (!(decide (a0.Time < a1.Var.Expiry))) = true then (pxe (escrow_need true 37) (fun e44 => Option.map Lo.rt (Option.map Lo.rt (some (.er e44)))) fun r42 => some (Lo.dn ())) else (pxe (escrow_need (decide (a1.From = a1.Inv.Router)) 37) (fun e51 => Option.map Lo.rt (Option.map Lo.rt (some (.er e51)))) fun r49 => some (Lo.dn ()))) fun o66 => Lo.on o66 fun (_ : Unit) => pxe (escrow_put_int a0.Purse a1.Inv.User a1.Inv.Send a1.Var.Amount) (fun e58 => Option.map Lo.rt (some (.er e58))) fun r56 => pxe (escrow_State_free (⟨a0.Side, a0.Time, r56, a0.Vault, a0.Nonces, a0.Held, a0.Burnt, a0.Locks⟩ : escrow_State) a1.Inv.Send a1.Var.Amount) (fun e63 => Option.map Lo.rt (some (.er e63))) fun r61 => some (Lo.dn r61))) fun o72 => Lo.on o72 fun (y8 : escrow_State) => Option.bind (at_ y8.Locks ((r2.1 : Nat) : Int)) fun (x67 : escrow_Lock) => some ((.ok ((⟨y8.Side, y8.Time, y8.Purse, y8.Vault, y8.Nonces, y8.Held, y8.Burnt, (y8.Locks.set r2.1 (⟨x67.Key, x67.Digest, 3⟩ : escrow_Lock))⟩ : escrow_State))))
set_option maxRecDepth 20000 in
set_option maxHeartbeats 1000000 in
theorem S_escrow_State_cancel (b00 : Nat) (a0 : escrow_State) (z00a : Value) (a1 : api_Tx) (r : Px (escrow_State)) (h : escrow_State_cancel a0 a1 = some r) :
    SpecX Tryz.prog 67 [pt b00 0, Ag (api_Tx.cs a1)] [blk b00 45 (escrow_State.cs a0 z00a), lst 76 3 z00a (a0.Locks.map escrow_Lock.cs)] [] (fun (r : escrow_State) (z : Unit) => True) mustCh r (fun r z => Tu []) (fun r z M => blk b00 45 (escrow_State.cs r z00a) :: lst 76 3 z00a (r.Locks.map escrow_Lock.cs) ::  M) (fun r z M =>  M) := by
  refine .of func67 rfl ntmps67 rfl fun w0 D0 G0 => ?_
  unfold escrow_State_cancel at h
  refine .seq ?_
  refine .reg rfl ?_
  refine .opx (X.box (cs := (api_Tx.cs a1)) .t1 rfl) rfl fun b1 => ?_
  refine .nil ?_
  refine .then ?_
  refine .seq ?_
  refine .reg rfl ?_
  refine .opp (P.mov .g1) rfl ?_
  refine .op (V.ld (v := Ag (api_Tx.cs a1)) .g1 .k0 (.agg isAgg36 sizeOf36 rfl rfl)) rfl ?_
  rcases pxe_eq h with ⟨e4, hr3, h⟩ | ⟨r2, hr3, h⟩
  · refine .opg (G.callx call78 (.cons .t1 (.cons .t0 .nil)) (S_escrow_State_lock b00 a0 z00a a1 (.er e4) hr3).er (.cons .k1 (.cons .k1 .nil)) .nil ?_) rfl fun _ h_ => h_.elim
    refine .thp ?_
    cases h
    exact .xer rfl
  · refine .opg (G.call call78 (.cons .t1 (.cons .t0 .nil)) (S_escrow_State_lock b00 a0 z00a a1 (.ok r2) hr3).ok (.cons .k1 (.cons .k1 .nil)) .nil (fun _ _ => rfl) (fun _ _ => rfl) rfl) rfl fun ⟨b5, q6⟩ hq7 => ?_
    refine .opp (P.asg .t0) rfl ?_
    refine .nil ?_
    refine .then ?_
    refine .seq ?_
    refine .draw 9 (.on 0 .pu (.on 1 .pu (.on 2 .pu (.on 4 .pu (.on 5 .pu (.on 3 .ld (.on 6 .ld (.on 7 .pu (.on 8 .go .nl))))))))) follows_mixed (.thn .bodx) (by kernel_rfl) ?_
    refine .dpu rfl (.n rfl) (P.mov .g2) rfl rfl ?_
    refine .dpu rfl (.n rfl) (P.nilc .t0) rfl rfl ?_
    refine .dpu rfl (.n rfl) (P.fa .t0 fa_45_1 rfl) rfl rfl ?_
    refine .dpu rfl (.n rfl) (P.fa .g2 fa_36_6 rfl) rfl rfl ?_
    refine .dpu rfl (.n rfl) (P.fa .t0 fa_34_1 rfl) rfl rfl ?_
    refine .dld rfl (.n rfl) (V.ld (v := N a0.Time) .t1 .k0 (.one isAgg3 rfl)) (fun _ h => h) rfl rfl ?_
    refine .dld rfl (.n rfl) (V.ld (v := N a1.Var.Expiry) .t1 .k2 (.one isAgg3 rfl)) (fun _ h => h) rfl rfl ?_
    refine .dpu rfl (.n rfl) (P.bin .t1 .t0 .lss) rfl rfl ?_
    refine .dgo rfl (.n rfl) (OpV.g (OpP.toV (P.asg .t0)) rfl) (.inr fun _ _ _ h => h) fun _ _ => ?_
    refine .dnil ?_
    refine .then ?_
    obtain ⟨o72, hj10, h⟩ := bnd_eq h
    refine .cuto (γ := Unit) h (E1 := fun (y8 : escrow_State) _ => [(4, pt b5 q6)]) (L1 := fun (y8 : escrow_State) _ => [blk b00 45 (escrow_State.cs y8 z00a), lst 76 3 z00a (y8.Locks.map escrow_Lock.cs)]) (R1 := fun (y8 : escrow_State) _ => []) ?_ (fun y8 _ h' => ?_)
    · refine .seq ?_
      refine .reg rfl ?_
      refine .opp (P.mov .g3) rfl ?_
      refine .opp (P.nilc .t0) rfl ?_
      refine .opp (P.fa .t0 fa_45_0 rfl) rfl ?_
      refine .op (V.ld (v := N a0.Side) .t0 .k0 (.one isAgg3 rfl)) rfl ?_
      refine .opp (P.bin .t0 .k .eql) rfl ?_
      refine .nil ?_
      refine .then ?_
      refine .cond .t0 (fun c11 => ?_) (fun c11 => ?_)
      · rw [if_pos c11] at hj10
        obtain ⟨o37, hj14, hj10⟩ := bnd_eq hj10
        refine .cuto (γ := Unit) hj10 (E1 := fun (_ : Unit) _ => [(4, pt b5 q6), (3, pt b1 0), (0, pt b00 0)]) (L1 := fun (_ : Unit) _ => [blk b1 36 (api_Tx.cs a1), blk b00 45 (escrow_State.cs a0 z00a), lst 76 3 z00a (a0.Locks.map escrow_Lock.cs)]) (R1 := fun (_ : Unit) _ => []) ?_ (fun _ _ hj10' => ?_)
        · refine .reg rfl ?_
          refine .opp (P.mov .t0) rfl ?_
          refine .opp (P.not .t0) rfl ?_
          refine .opp (P.mov .t0) rfl ?_
          refine .split .k0 (fun c15 => ?_) (fun c15 => ?_)
          · rw [if_pos c15] at hj14
            refine .gno rfl .g0 rfl rfl ?_
            refine .gno rfl .g0 rfl rfl ?_
            refine .opp (P.pickT .t0 .k) rfl ?_
            rcases pxe_eq hj14 with ⟨e18, hr17, hj14⟩ | ⟨r16, hr17, hj14⟩
            · refine .opg (G.callx call72 (.cons .t0 (.cons .k .nil)) (S_escrow_need true 35 (.er e18) hr17).er .nil .nil ?_) rfl fun _ h_ => h_.elim
              obtain ⟨x19, hx20, rfl⟩ := map_lrt hj14
              obtain rfl := rt_on hj10
              refine .thp ?_
              obtain ⟨x21, hx22, rfl⟩ := map_lrt hx20
              obtain rfl := rt_on h
              refine .thp ?_
              cases hx22
              exact .xer rfl
            · refine .opg (G.call call72 (.cons .t0 (.cons .k .nil)) (S_escrow_need true 35 (.ok r16) hr17).ok .nil .nil (fun _ _ => rfl) (fun _ _ => rfl) rfl) rfl fun _ _ => ?_
              refine .drop .k0 ?_
              refine .nil ?_
              cases hj14
              exact .sty () () (dn_on hj10) (.cons Mm.m0 (.cons Mm.m1 (.cons Mm.m2 .nil))) (.of (.cons .k2 (.cons .k0 (.cons .k0 .nil)))) .nil
          · rw [if_neg (ne_true_of_eq_false c15)] at hj14
            refine .gyes rfl .g0 ?_
            refine .op (V.ld (v := Ag (api_Tx.cs a1)) .g2 .k2 (.agg isAgg36 sizeOf36 rfl rfl)) rfl ?_
            refine .gyes rfl .g1 ?_
            obtain ⟨r23, hr24, hj14⟩ := bnd_eq hj14
            refine .opg (G.call call79 (.cons .t0 (.cons .k .nil)) (S_escrow_signed a1 2 r23 hr24) .nil .nil (fun _ _ => rfl) (fun _ _ => rfl) rfl) rfl fun _ _ => ?_
            refine .opp (P.pickF .t1 .t0) rfl ?_
            rcases pxe_eq hj14 with ⟨e27, hr26, hj14⟩ | ⟨r25, hr26, hj14⟩
            · refine .opg (G.callx call72 (.cons .t0 (.cons .k .nil)) (S_escrow_need r23 35 (.er e27) hr26).er .nil .nil ?_) rfl fun _ h_ => h_.elim
              obtain ⟨x28, hx29, rfl⟩ := map_lrt hj14
              obtain rfl := rt_on hj10
              refine .thp ?_
              obtain ⟨x30, hx31, rfl⟩ := map_lrt hx29
              obtain rfl := rt_on h
              refine .thp ?_
              cases hx31
              exact .xer rfl
            · refine .opg (G.call call72 (.cons .t0 (.cons .k .nil)) (S_escrow_need r23 35 (.ok r25) hr26).ok .nil .nil (fun _ _ => rfl) (fun _ _ => rfl) rfl) rfl fun _ _ => ?_
              refine .drop .k0 ?_
              refine .nil ?_
              cases hj14
              exact .sty () () (dn_on hj10) (.cons Mm.m0 (.cons Mm.m1 (.cons Mm.m2 .nil))) (.of (.cons .k2 (.cons .k0 (.cons .k0 .nil)))) .nil
        · replace hj10 := hj10'
          refine .drawl [blk b1 36 (api_Tx.cs a1), lst 76 3 z00a (a0.Locks.map escrow_Lock.cs)] [] (Ls.of (.cons .k0 (.cons .k1 .nil))) Rs.nil 13 (.on 0 .pu (.on 1 .pu (.on 2 .pu (.on 3 .pu (.on 4 .pu (.on 6 .pu (.on 7 .pu (.on 9 .pu (.on 10 .pu (.on 5 .ld (.on 8 .ld (.on 11 .ld (.on 12 .go .nl))))))))))))) follows_mixed (.thn .bodx) (by kernel_rfl) ?_
          refine .dpu rfl (.n rfl) (P.mov .t2) rfl rfl ?_
          refine .dpu rfl (.n rfl) (P.nilc .t0) rfl rfl ?_
          refine .dpu rfl (.n rfl) (P.fa .t0 fa_45_3 rfl) rfl rfl ?_
          refine .dpu rfl (.n rfl) (P.fa .g2 fa_36_5 rfl) rfl rfl ?_
          refine .dpu rfl (.n rfl) (P.fa .t0 fa_32_2 rfl) rfl rfl ?_
          refine .dpu rfl (.n rfl) (P.fa .g3 fa_36_5 rfl) rfl rfl ?_
          refine .dpu rfl (.n rfl) (P.fa .t0 fa_32_4 rfl) rfl rfl ?_
          refine .dpu rfl (.n rfl) (P.fa .t4 fa_36_6 rfl) rfl rfl ?_
          refine .dpu rfl (.n rfl) (P.fa .t0 fa_34_0 rfl) rfl rfl ?_
          refine .dld rfl (.n rfl) (V.ld (v := N a1.Inv.Router) .t2 .k0 (.one isAgg3 rfl)) (fun _ h => (h.imp (Ls.of (.cons .k0 (.cons .k1 .nil)))).ro Rs.nil) rfl rfl ?_
          refine .dld rfl (.n rfl) (V.ld (v := N a1.Inv.Recv) .t2 .k0 (.one isAgg3 rfl)) (fun _ h => (h.imp (Ls.of (.cons .k0 (.cons .k1 .nil)))).ro Rs.nil) rfl rfl ?_
          refine .dld rfl (.n rfl) (V.ld (v := Ag (api_Wide.cs a1.Var.Amount)) .t2 .k0 (.agg isAgg30 sizeOf30 rfl rfl)) (fun _ h => (h.imp (Ls.of (.cons .k0 (.cons .k1 .nil)))).ro Rs.nil) rfl rfl ?_
          refine .conseq .k1 (q := blk b00 45 ((List.take 66 (escrow_State.cs a0 z00a)) ++ (purse_Book.cs a0.Vault) ++ (List.drop (66 + 64) (escrow_State.cs a0 z00a)))) (fun _ h_ => by exact h_) ?_
          rcases pxe_eq hj10 with ⟨e34, hr33, hj10⟩ | ⟨r32, hr33, hj10⟩
          · refine .dgo rfl (.n rfl) (G.callx call70 (.cons .t3 (.cons .t2 (.cons .t1 (.cons .t0 .nil)))) (S_escrow_put_int b00 66 45 (List.take 66 (escrow_State.cs a0 z00a)) (List.drop (66 + 64) (escrow_State.cs a0 z00a)) (by rfl) a0.Vault a1.Inv.Router a1.Inv.Recv a1.Var.Amount (.er e34) hr33).er (.cons .k0 .nil) .nil ?_) (.inr fun _ _ h_ _ => h_.elim) fun _ h_ => h_.elim
            obtain ⟨x35, hx36, rfl⟩ := map_lrt hj10
            obtain rfl := rt_on h
            refine .thp ?_
            cases hx36
            exact .xer rfl
          · refine .dgo rfl (.n rfl) (G.call call70 (.cons .t3 (.cons .t2 (.cons .t1 (.cons .t0 .nil)))) (S_escrow_put_int b00 66 45 (List.take 66 (escrow_State.cs a0 z00a)) (List.drop (66 + 64) (escrow_State.cs a0 z00a)) (by rfl) a0.Vault a1.Inv.Router a1.Inv.Recv a1.Var.Amount (.ok r32) hr33).ok (.cons .k0 .nil) .nil (fun _ _ => rfl) (fun _ _ => rfl) rfl) (.inr fun _ _ _ h => (h.imp (Ls.of (.cons .k1 (.cons .k1 .nil)))).ro Rs.nil) fun _ _ => ?_
            refine .conseq .k0 (q := blk b00 45 (escrow_State.cs ⟨a0.Side, a0.Time, a0.Purse, r32, a0.Nonces, a0.Held, a0.Burnt, a0.Locks⟩ z00a)) (fun _ h_ => by exact h_) ?_
            refine .drop .k0 ?_
            refine .dnil ?_
            cases hj10
            exact .sty ⟨a0.Side, a0.Time, a0.Purse, r32, a0.Nonces, a0.Held, a0.Burnt, a0.Locks⟩ () (dn_on h) (.cons Mm.m0 .nil) (.of (.cons .k0 (.cons .k1 .nil))) .nil
      · rw [if_neg (ne_true_of_eq_false c11)] at hj10
        obtain ⟨o66, hj40, hj10⟩ := bnd_eq hj10
        refine .cuto (γ := Unit) hj10 (E1 := fun (_ : Unit) _ => [(4, pt b5 q6), (3, pt b1 0), (0, pt b00 0)]) (L1 := fun (_ : Unit) _ => [blk b1 36 (api_Tx.cs a1), blk b00 45 (escrow_State.cs a0 z00a), lst 76 3 z00a (a0.Locks.map escrow_Lock.cs)]) (R1 := fun (_ : Unit) _ => []) ?_ (fun _ _ hj10' => ?_)
        · refine .reg rfl ?_
          refine .opp (P.mov .t0) rfl ?_
          refine .opp (P.not .t0) rfl ?_
          refine .opp (P.mov .t0) rfl ?_
          refine .split .k0 (fun c41 => ?_) (fun c41 => ?_)
          · rw [if_pos c41] at hj40
            refine .gno rfl .g0 rfl rfl ?_
            refine .gno rfl .g0 rfl rfl ?_
            refine .gno rfl .g0 rfl rfl ?_
            refine .gno rfl .g0 rfl rfl ?_
            refine .gno rfl .g0 rfl rfl ?_
            refine .gno rfl .g0 rfl rfl ?_
            refine .opp (P.pickT .t0 .k) rfl ?_
            rcases pxe_eq hj40 with ⟨e44, hr43, hj40⟩ | ⟨r42, hr43, hj40⟩
            · refine .opg (G.callx call72 (.cons .t0 (.cons .k .nil)) (S_escrow_need true 37 (.er e44) hr43).er .nil .nil ?_) rfl fun _ h_ => h_.elim
              obtain ⟨x45, hx46, rfl⟩ := map_lrt hj40
              obtain rfl := rt_on hj10
              refine .thp ?_
              obtain ⟨x47, hx48, rfl⟩ := map_lrt hx46
              obtain rfl := rt_on h
              refine .thp ?_
              cases hx48
              exact .xer rfl
            · refine .opg (G.call call72 (.cons .t0 (.cons .k .nil)) (S_escrow_need true 37 (.ok r42) hr43).ok .nil .nil (fun _ _ => rfl) (fun _ _ => rfl) rfl) rfl fun _ _ => ?_
              refine .drop .k0 ?_
              refine .nil ?_
              cases hj40
              exact .sty () () (dn_on hj10) (.cons Mm.m0 (.cons Mm.m1 (.cons Mm.m2 .nil))) (.of (.cons .k2 (.cons .k0 (.cons .k0 .nil)))) .nil
          · rw [if_neg (ne_true_of_eq_false c41)] at hj40
            refine .gyes rfl .g0 ?_
            refine .opp (P.fa .g2 fa_36_0 rfl) rfl ?_
            refine .gyes rfl .g1 ?_
            refine .op (V.ld (v := N a1.From) .t0 .k2 (.one isAgg3 rfl)) rfl ?_
            refine .gyes rfl .g1 ?_
            refine .opp (P.fa .g3 fa_36_5 rfl) rfl ?_
            refine .gyes rfl .g2 ?_
            refine .opp (P.fa .t0 fa_32_2 rfl) rfl ?_
            refine .gyes rfl .g2 ?_
            refine .op (V.ld (v := N a1.Inv.Router) .t0 .k2 (.one isAgg3 rfl)) rfl ?_
            refine .gyes rfl .g2 ?_
            refine .opp (P.bin .t1 .t0 .eql) rfl ?_
            refine .opp (P.pickF .t1 .t0) rfl ?_
            rcases pxe_eq hj40 with ⟨e51, hr50, hj40⟩ | ⟨r49, hr50, hj40⟩
            · refine .opg (G.callx call72 (.cons .t0 (.cons .k .nil)) (S_escrow_need (decide (a1.From = a1.Inv.Router)) 37 (.er e51) hr50).er .nil .nil ?_) rfl fun _ h_ => h_.elim
              obtain ⟨x52, hx53, rfl⟩ := map_lrt hj40
              obtain rfl := rt_on hj10
              refine .thp ?_
              obtain ⟨x54, hx55, rfl⟩ := map_lrt hx53
              obtain rfl := rt_on h
              refine .thp ?_
              cases hx55
              exact .xer rfl
            · refine .opg (G.call call72 (.cons .t0 (.cons .k .nil)) (S_escrow_need (decide (a1.From = a1.Inv.Router)) 37 (.ok r49) hr50).ok .nil .nil (fun _ _ => rfl) (fun _ _ => rfl) rfl) rfl fun _ _ => ?_
              refine .drop .k0 ?_
              refine .nil ?_
              cases hj40
              exact .sty () () (dn_on hj10) (.cons Mm.m0 (.cons Mm.m1 (.cons Mm.m2 .nil))) (.of (.cons .k2 (.cons .k0 (.cons .k0 .nil)))) .nil
        · replace hj10 := hj10'
          refine .seq ?_
          refine .drawl [blk b1 36 (api_Tx.cs a1), lst 76 3 z00a (a0.Locks.map escrow_Lock.cs)] [] (Ls.of (.cons .k0 (.cons .k1 .nil))) Rs.nil 13 (.on 0 .pu (.on 1 .pu (.on 2 .pu (.on 3 .pu (.on 4 .pu (.on 6 .pu (.on 7 .pu (.on 9 .pu (.on 10 .pu (.on 5 .ld (.on 8 .ld (.on 11 .ld (.on 12 .go .nl))))))))))))) follows_mixed (.thn (.thn .bodx)) (by kernel_rfl) ?_
          refine .dpu rfl (.n rfl) (P.mov .g2) rfl rfl ?_
          refine .dpu rfl (.n rfl) (P.nilc .t0) rfl rfl ?_
          refine .dpu rfl (.n rfl) (P.fa .t0 fa_45_2 rfl) rfl rfl ?_
          refine .dpu rfl (.n rfl) (P.fa .g2 fa_36_5 rfl) rfl rfl ?_
          refine .dpu rfl (.n rfl) (P.fa .t0 fa_32_0 rfl) rfl rfl ?_
          refine .dpu rfl (.n rfl) (P.fa .g3 fa_36_5 rfl) rfl rfl ?_
          refine .dpu rfl (.n rfl) (P.fa .t0 fa_32_3 rfl) rfl rfl ?_
          refine .dpu rfl (.n rfl) (P.fa .g4 fa_36_6 rfl) rfl rfl ?_
          refine .dpu rfl (.n rfl) (P.fa .t0 fa_34_0 rfl) rfl rfl ?_
          refine .dld rfl (.n rfl) (V.ld (v := N a1.Inv.User) .t2 .k0 (.one isAgg3 rfl)) (fun _ h => (h.imp (Ls.of (.cons .k0 (.cons .k1 .nil)))).ro Rs.nil) rfl rfl ?_
          refine .dld rfl (.n rfl) (V.ld (v := N a1.Inv.Send) .t2 .k0 (.one isAgg3 rfl)) (fun _ h => (h.imp (Ls.of (.cons .k0 (.cons .k1 .nil)))).ro Rs.nil) rfl rfl ?_
          refine .dld rfl (.n rfl) (V.ld (v := Ag (api_Wide.cs a1.Var.Amount)) .t2 .k0 (.agg isAgg30 sizeOf30 rfl rfl)) (fun _ h => (h.imp (Ls.of (.cons .k0 (.cons .k1 .nil)))).ro Rs.nil) rfl rfl ?_
          refine .conseq .k1 (q := blk b00 45 ((List.take 2 (escrow_State.cs a0 z00a)) ++ (purse_Book.cs a0.Purse) ++ (List.drop (2 + 64) (escrow_State.cs a0 z00a)))) (fun _ h_ => by exact h_) ?_
          rcases pxe_eq hj10 with ⟨e58, hr57, hj10⟩ | ⟨r56, hr57, hj10⟩
          · refine .dgo rfl (.n rfl) (G.callx call70 (.cons .t3 (.cons .t2 (.cons .t1 (.cons .t0 .nil)))) (S_escrow_put_int b00 2 45 (List.take 2 (escrow_State.cs a0 z00a)) (List.drop (2 + 64) (escrow_State.cs a0 z00a)) (by rfl) a0.Purse a1.Inv.User a1.Inv.Send a1.Var.Amount (.er e58) hr57).er (.cons .k0 .nil) .nil ?_) (.inr fun _ _ h_ _ => h_.elim) fun _ h_ => h_.elim
            refine .thp ?_
            obtain ⟨x59, hx60, rfl⟩ := map_lrt hj10
            obtain rfl := rt_on h
            refine .thp ?_
            cases hx60
            exact .xer rfl
          · refine .dgo rfl (.n rfl) (G.call call70 (.cons .t3 (.cons .t2 (.cons .t1 (.cons .t0 .nil)))) (S_escrow_put_int b00 2 45 (List.take 2 (escrow_State.cs a0 z00a)) (List.drop (2 + 64) (escrow_State.cs a0 z00a)) (by rfl) a0.Purse a1.Inv.User a1.Inv.Send a1.Var.Amount (.ok r56) hr57).ok (.cons .k0 .nil) .nil (fun _ _ => rfl) (fun _ _ => rfl) rfl) (.inr fun _ _ _ h => (h.imp (Ls.of (.cons .k1 (.cons .k1 .nil)))).ro Rs.nil) fun _ _ => ?_
            refine .conseq .k0 (q := blk b00 45 (escrow_State.cs ⟨a0.Side, a0.Time, r56, a0.Vault, a0.Nonces, a0.Held, a0.Burnt, a0.Locks⟩ z00a)) (fun _ h_ => by exact h_) ?_
            refine .drop .k0 ?_
            refine .dnil ?_
            refine .then ?_
            refine .reg rfl ?_
            refine .opp (P.mov .t2) rfl ?_
            refine .opp (P.fa .g2 fa_36_5 rfl) rfl ?_
            refine .opp (P.fa .t0 fa_32_3 rfl) rfl ?_
            refine .op (V.ld (v := N a1.Inv.Send) .t0 .k1 (.one isAgg3 rfl)) rfl ?_
            refine .opp (P.fa .t3 fa_36_6 rfl) rfl ?_
            refine .opp (P.fa .t0 fa_34_0 rfl) rfl ?_
            refine .op (V.ld (v := Ag (api_Wide.cs a1.Var.Amount)) .t0 .k1 (.agg isAgg30 sizeOf30 rfl rfl)) rfl ?_
            rcases pxe_eq hj10 with ⟨e63, hr62, hj10⟩ | ⟨r61, hr62, hj10⟩
            · refine .opg (G.callx call74 (.cons .t2 (.cons .t1 (.cons .t0 .nil))) (S_escrow_State_free b00 (⟨a0.Side, a0.Time, r56, a0.Vault, a0.Nonces, a0.Held, a0.Burnt, a0.Locks⟩ : escrow_State) z00a a1.Inv.Send a1.Var.Amount (.er e63) hr62).er (.cons .k0 (.cons .k1 .nil)) .nil ?_) rfl fun _ h_ => h_.elim
              obtain ⟨x64, hx65, rfl⟩ := map_lrt hj10
              obtain rfl := rt_on h
              refine .thp ?_
              cases hx65
              exact .xer rfl
            · refine .opg (G.call call74 (.cons .t2 (.cons .t1 (.cons .t0 .nil))) (S_escrow_State_free b00 (⟨a0.Side, a0.Time, r56, a0.Vault, a0.Nonces, a0.Held, a0.Burnt, a0.Locks⟩ : escrow_State) z00a a1.Inv.Send a1.Var.Amount (.ok r61) hr62).ok (.cons .k0 (.cons .k1 .nil)) .nil (fun _ _ => rfl) (fun _ _ => rfl) rfl) rfl fun _ _ => ?_
              refine .drop .k0 ?_
              refine .nil ?_
              cases hj10
              exact .sty r61 () (dn_on h) (.cons Mm.m0 .nil) (.of (.cons .k0 (.cons .k0 .nil))) .nil
    · replace h := h'
      refine .reg rfl ?_
      refine .opp (P.mov .t0) rfl ?_
      refine .opp (P.nilc .t0) rfl ?_
      refine .opp (P.fa (off' := q6 + 2) .t0 fa_76_2 rfl) rfl ?_
      obtain ⟨x67, hx68, h⟩ := bnd_eq h
      obtain ⟨i69, hi70, hx68⟩ := at_eq hx68
      have hx71 : y8.Locks[r2.1]? = some x67 := by have hk_ : r2.1 = i69 := Int.ofNat.inj hi70; rw [hk_]; exact hx68
      refine .opg (G.stx (off := q6) (k := 2) (cs' := (escrow_Lock.cs ⟨x67.Key, x67.Digest, 3⟩)) .k .t0 (hq7.1) .k1 (map_get hx71) (.mk sizeOf3 rfl rfl rfl rfl)) rfl fun _ _ => ?_
      refine .conseq .k0 (q := lst 76 3 z00a ((y8.Locks.set r2.1 (⟨x67.Key, x67.Digest, 3⟩ : escrow_Lock)).map escrow_Lock.cs)) (fun _ h_ => by simpa [List.map_set] using h_) ?_
      refine .nil ?_
      cases h
      refine .xokn ?_
      exact .finwn () (.r0 rfl) trivial (Ls.of (.cons .k1 (.cons .k0 .nil))) .nil
attribute [irreducible] escrow_State_cancel
noncomputable def escrow_State_do (a0 : escrow_State) (a1 : api_Tx) : Option (Px (escrow_State)) :=
  if (decide (a1.Kind = 1)) = true then (Option.bind (purse_Book_Move a0.Purse a1.From a1.Inv.To a1.Asset a1.Amount) fun r3 => pxe (escrow_check r3.2) (fun e8 => some (.er e8)) fun r6 => some ((.ok (⟨a0.Side, a0.Time, r3.1, a0.Vault, a0.Nonces, a0.Held, a0.Burnt, a0.Locks⟩ : escrow_State)))) else (if (decide (a1.Kind = 2)) = true then (pxe (escrow_State_store a0 a1) (fun e12 => some (.er e12)) fun r10 => some (.ok r10)) else (if (decide (a1.Kind = 3)) = true then (pxe (escrow_State_draw a0 a1) (fun e16 => some (.er e16)) fun r14 => some (.ok r14)) else (if (decide (a1.Kind = 4)) = true then (pxe (escrow_State_prepare a0 a1) (fun e20 => some (.er e20)) fun r18 => some (.ok r18)) else (if (decide (a1.Kind = 5)) = true then (pxe (escrow_State_fulfil a0 a1) (fun e25 => some (.er e25)) fun r23 => some (.ok r23)) else (if (decide (a1.Kind = 6)) = true then (pxe (escrow_State_cancel a0 a1) (fun e29 => some (.er e29)) fun r27 => some (.ok r27)) else (some (.ok a0)))))))
set_option maxRecDepth 20000 in
set_option maxHeartbeats 1000000 in
theorem S_escrow_State_do (b00 : Nat) (a0 : escrow_State) (z00a : Value) (a1 : api_Tx) (r : Px (escrow_State)) (h : escrow_State_do a0 a1 = some r) :
    SpecX Tryz.prog 57 [pt b00 0, Ag (api_Tx.cs a1)] [blk b00 45 (escrow_State.cs a0 z00a), lst 76 3 z00a (a0.Locks.map escrow_Lock.cs)] [] (fun (r : escrow_State) (z : Value) => True) mustCh r (fun r z => Tu []) (fun r z M => blk b00 45 (escrow_State.cs r z) :: lst 76 3 z (r.Locks.map escrow_Lock.cs) ::  M) (fun r z M =>  M) := by
  refine .of func57 rfl ntmps57 rfl fun w0 D0 G0 => ?_
  unfold escrow_State_do at h
  refine .seq ?_
  refine .reg rfl ?_
  refine .opx (X.box (cs := (api_Tx.cs a1)) .t1 rfl) rfl fun b1 => ?_
  refine .nil ?_
  refine .then ?_
  refine .seq ?_
  refine .reg rfl ?_
  refine .opp (P.fa .g0 fa_36_2 rfl) rfl ?_
  refine .op (V.ld (v := N a1.Kind) .t0 .k0 (.one isAgg3 rfl)) rfl ?_
  refine .nil ?_
  refine .then ?_
  refine .block ?_
  refine .seq ?_
  refine .reg rfl ?_
  refine .opp (P.bin .g0 .k .eql) rfl ?_
  refine .opp (P.asg .t0) rfl ?_
  refine .nil ?_
  refine .then ?_
  refine .cond .t0 (fun c2 => ?_) (fun c2 => ?_)
  · rw [if_pos c2] at h
    refine .seq ?_
    obtain ⟨r3, hr4, h⟩ := bnd_eq h
    refine .dcut (γ := Nat) (φ := fun _ => True) (E1 := fun x_ => [(5, N r3.2), (4, pt x_ 0), (0, pt b00 0)]) (L1 := fun x_ => [blk x_ 41 (purse_Book.cs r3.1), blk b1 36 (api_Tx.cs a1), blk b00 45 (escrow_State.cs a0 z00a), lst 76 3 z00a (a0.Locks.map escrow_Lock.cs)]) (R1 := fun x_ => []) ?_ (fun b5 _ => ?_)
    · refine .draw 20 (.on 0 .pu (.on 1 .pu (.on 2 .pu (.on 4 .pu (.on 6 .pu (.on 7 .pu (.on 9 .pu (.on 11 .pu (.on 3 .ld (.on 5 .ld (.on 8 .ld (.on 10 .ld (.on 12 .ld (.fk 13 17 (.on 14 .pu (.on 15 .pu (.on 16 .pu (.on 17 .go (.on 18 .go (.on 19 .go .nl)))))) (.on 13 .go (.on 14 .pu (.on 15 .pu (.on 16 .pu (.on 18 .go (.on 19 .go .nl)))))))))))))))))))) follows_mixed (.thn (.thn (.inb .bodx))) (by kernel_rfl) ?_
      refine .dpu rfl (.n rfl) (P.mov .g2) rfl rfl ?_
      refine .dpu rfl (.n rfl) (P.nilc .t0) rfl rfl ?_
      refine .dpu rfl (.n rfl) (P.fa .t0 fa_45_2 rfl) rfl rfl ?_
      refine .dpu rfl (.n rfl) (P.fa .g2 fa_36_0 rfl) rfl rfl ?_
      refine .dpu rfl (.n rfl) (P.fa .g3 fa_36_5 rfl) rfl rfl ?_
      refine .dpu rfl (.n rfl) (P.fa .t0 fa_32_5 rfl) rfl rfl ?_
      refine .dpu rfl (.n rfl) (P.fa .g4 fa_36_3 rfl) rfl rfl ?_
      refine .dpu rfl (.n rfl) (P.fa .t5 fa_36_4 rfl) rfl rfl ?_
      refine .dld rfl (.n rfl) (V.ld (v := Ag (purse_Book.cs a0.Purse)) .t4 .k1 (.agg isAgg41 sizeOf41 rfl rfl)) (fun _ h => h) rfl rfl ?_
      refine .dld rfl (.n rfl) (V.ld (v := N a1.From) .t4 .k0 (.one isAgg3 rfl)) (fun _ h => h) rfl rfl ?_
      refine .dld rfl (.n rfl) (V.ld (v := N a1.Inv.To) .t4 .k0 (.one isAgg3 rfl)) (fun _ h => h) rfl rfl ?_
      refine .dld rfl (.n rfl) (V.ld (v := N a1.Asset) .t4 .k0 (.one isAgg3 rfl)) (fun _ h => h) rfl rfl ?_
      refine .dld rfl (.n rfl) (V.ld (v := Ag (api_Wide.cs a1.Amount)) .t4 .k0 (.agg isAgg30 sizeOf30 rfl rfl)) (fun _ h => h) rfl rfl ?_
      refine .dfk ?_ ?_
      · refine .dgo rfl (.n rfl) (G.call call61 (.cons .t4 (.cons .t3 (.cons .t2 (.cons .t1 (.cons .t0 .nil))))) (S_purse_Book_Move a0.Purse a1.From a1.Inv.To a1.Asset a1.Amount r3 hr4) .nil .nil (fun _ _ => rfl) (fun _ _ => rfl) rfl) (.inr fun _ _ _ h => h) fun _ _ => ?_
        refine .dpu rfl (.n rfl) (P.mov .t0) rfl rfl ?_
        refine .dpu rfl (.n rfl) (P.ext (v := Ag (purse_Book.cs r3.1)) .g0 rfl) rfl rfl ?_
        refine .dpu rfl (.n rfl) (P.ext (v := N r3.2) .t1 rfl) rfl rfl ?_
        refine .dgo rfl (.n rfl) (OpX.g (X.alc (cs := (purse_Book.cs ⟨⟨⟨0, 0, 0, 0⟩, ⟨0, 0, 0, 0⟩⟩, ⟨⟨0, 0, 0, 0⟩, ⟨0, 0, 0, 0⟩⟩, ⟨⟨0, 0, 0, 0⟩, ⟨0, 0, 0, 0⟩⟩, ⟨⟨0, 0, 0, 0⟩, ⟨0, 0, 0, 0⟩⟩, ⟨⟨0, 0, 0, 0⟩, ⟨0, 0, 0, 0⟩⟩, ⟨⟨0, 0, 0, 0⟩, ⟨0, 0, 0, 0⟩⟩, ⟨⟨0, 0, 0, 0⟩, ⟨0, 0, 0, 0⟩⟩, ⟨⟨0, 0, 0, 0⟩, ⟨0, 0, 0, 0⟩⟩⟩)) zeroValue41 rfl) rfl) (.inr fun _ _ _ h => (h.imp (Ls.of (.cons .k1 (.cons .k1 (.cons .k1 .nil))))).ro Rs.nil) fun b5 _ => ?_
        refine .dgo rfl (.n rfl) (G.str .t2 .g0 .k0 (.mk (cs' := (purse_Book.cs r3.1)) sizeOf41 rfl rfl rfl rfl)) (.inr fun _ _ _ h => (h.imp (Ls.of (.cons .k1 (.cons .k1 (.cons .k1 .nil))))).ro Rs.nil) fun _ _ => ?_
        refine .dgo rfl (.n rfl) (OpV.g (OpP.toV (P.asg .t1)) rfl) (.inr fun _ _ _ h => (h.imp (Ls.of (.cons .k1 (.cons .k1 (.cons .k1 .nil))))).ro Rs.nil) fun _ _ => ?_
        refine .dnil ?_
        exact .dst b5 trivial (.cons Mm.m0 (.cons Mm.m1 (.cons Mm.m3 .nil))) (Ls.of (.cons .k0 (.cons .k0 (.cons .k0 (.cons .k0 .nil))))) .nil
      · refine .dgo rfl (.n rfl) (OpX.g (X.alc (cs := (purse_Book.cs ⟨⟨⟨0, 0, 0, 0⟩, ⟨0, 0, 0, 0⟩⟩, ⟨⟨0, 0, 0, 0⟩, ⟨0, 0, 0, 0⟩⟩, ⟨⟨0, 0, 0, 0⟩, ⟨0, 0, 0, 0⟩⟩, ⟨⟨0, 0, 0, 0⟩, ⟨0, 0, 0, 0⟩⟩, ⟨⟨0, 0, 0, 0⟩, ⟨0, 0, 0, 0⟩⟩, ⟨⟨0, 0, 0, 0⟩, ⟨0, 0, 0, 0⟩⟩, ⟨⟨0, 0, 0, 0⟩, ⟨0, 0, 0, 0⟩⟩, ⟨⟨0, 0, 0, 0⟩, ⟨0, 0, 0, 0⟩⟩⟩)) zeroValue41 rfl) rfl) (.inr fun _ _ _ h => (h.imp (Ls.of (.cons .k1 (.cons .k1 (.cons .k1 .nil))))).ro Rs.nil) fun b5 _ => ?_
        refine .dgo rfl (.n rfl) (G.call call61 (.cons .t5 (.cons .t4 (.cons .t3 (.cons .t2 (.cons .t1 .nil))))) (S_purse_Book_Move a0.Purse a1.From a1.Inv.To a1.Asset a1.Amount r3 hr4) .nil .nil (fun _ _ => rfl) (fun _ _ => rfl) rfl) (.inr fun _ _ _ h => (h.imp (Ls.of (.cons .k1 (.cons .k1 (.cons .k1 .nil))))).ro Rs.nil) fun _ _ => ?_
        refine .dpu rfl (.n rfl) (P.mov .t0) rfl rfl ?_
        refine .dpu rfl (.n rfl) (P.ext (v := Ag (purse_Book.cs r3.1)) .g0 rfl) rfl rfl ?_
        refine .dpu rfl (.n rfl) (P.ext (v := N r3.2) .t1 rfl) rfl rfl ?_
        refine .dgo rfl (.n rfl) (G.str .t1 .g1 .k0 (.mk (cs' := (purse_Book.cs r3.1)) sizeOf41 rfl rfl rfl rfl)) (.inr fun _ _ _ h => (h.imp (Ls.of (.cons .k1 (.cons .k1 (.cons .k1 .nil))))).ro Rs.nil) fun _ _ => ?_
        refine .dgo rfl (.n rfl) (OpV.g (OpP.toV (P.asg .t0)) rfl) (.inr fun _ _ _ h => (h.imp (Ls.of (.cons .k1 (.cons .k1 (.cons .k1 .nil))))).ro Rs.nil) fun _ _ => ?_
        refine .dnil ?_
        exact .dst b5 trivial (.cons Mm.m0 (.cons Mm.m1 (.cons Mm.m3 .nil))) (Ls.of (.cons .k0 (.cons .k0 (.cons .k0 (.cons .k0 .nil))))) .nil
    · refine .then ?_
      refine .seq ?_
      refine .reg rfl ?_
      refine .opp (P.mov .t0) rfl ?_
      rcases pxe_eq h with ⟨e8, hr7, h⟩ | ⟨r6, hr7, h⟩
      · refine .opg (G.callx call62 (.cons .t0 .nil) (S_escrow_check r3.2 (.er e8) hr7).er .nil .nil ?_) rfl fun _ h_ => h_.elim
        refine .thp ?_
        refine .inp ?_
        cases h
        exact .xer rfl
      · refine .opg (G.call call62 (.cons .t0 .nil) (S_escrow_check r3.2 (.ok r6) hr7).ok .nil .nil (fun _ _ => rfl) (fun _ _ => rfl) rfl) rfl fun _ _ => ?_
        refine .drop .k0 ?_
        refine .nil ?_
        refine .then ?_
        refine .reg rfl ?_
        refine .opp (P.mov .t1) rfl ?_
        refine .op (V.ld (v := Ag (purse_Book.cs r3.1)) .t1 .k0 (.agg isAgg41 sizeOf41 rfl rfl)) rfl ?_
        refine .opp (P.nilc .t1) rfl ?_
        refine .opp (P.fa .t0 fa_45_2 rfl) rfl ?_
        refine .opg (G.str .t1 .t0 .k2 (.mk (cs' := (escrow_State.cs ⟨a0.Side, a0.Time, r3.1, a0.Vault, a0.Nonces, a0.Held, a0.Burnt, a0.Locks⟩ z00a)) sizeOf41 rfl rfl rfl rfl)) rfl fun _ _ => ?_
        refine .nil ?_
        refine .inn ?_
        cases h
        refine .xokn ?_
        exact .finwn z00a (.r0 rfl) trivial (Ls.of (.cons .k0 (.cons .k2 .nil))) .nil
  · rw [if_neg (ne_true_of_eq_false c2)] at h
    refine .seq ?_
    refine .reg rfl ?_
    refine .opp (P.bin .g0 .k .eql) rfl ?_
    refine .opp (P.asg .t0) rfl ?_
    refine .nil ?_
    refine .then ?_
    refine .cond .t0 (fun c9 => ?_) (fun c9 => ?_)
    · rw [if_pos c9] at h
      refine .reg rfl ?_
      refine .opp (P.mov .t2) rfl ?_
      refine .op (V.ld (v := Ag (api_Tx.cs a1)) .t2 .k0 (.agg isAgg36 sizeOf36 rfl rfl)) rfl ?_
      rcases pxe_eq h with ⟨e12, hr11, h⟩ | ⟨r10, hr11, h⟩
      · refine .opg (G.callx call63 (.cons .t1 (.cons .t0 .nil)) (S_escrow_State_store b00 a0 z00a a1 (.er e12) hr11).er (.cons .k1 (.cons .k1 .nil)) .nil ?_) rfl fun _ h_ => h_.elim
        refine .inp ?_
        cases h
        exact .xer rfl
      · refine .opg (G.call call63 (.cons .t1 (.cons .t0 .nil)) (S_escrow_State_store b00 a0 z00a a1 (.ok r10) hr11).ok (.cons .k1 (.cons .k1 .nil)) .nil (fun _ _ => rfl) (fun _ _ => rfl) rfl) rfl fun _ _ => ?_
        refine .drop .k0 ?_
        refine .nil ?_
        refine .inn ?_
        cases h
        refine .xokn ?_
        exact .finwn z00a (.r0 rfl) trivial (Ls.of (.cons .k0 (.cons .k0 .nil))) .nil
    · rw [if_neg (ne_true_of_eq_false c9)] at h
      refine .seq ?_
      refine .reg rfl ?_
      refine .opp (P.bin .g0 .k .eql) rfl ?_
      refine .opp (P.asg .t0) rfl ?_
      refine .nil ?_
      refine .then ?_
      refine .cond .t0 (fun c13 => ?_) (fun c13 => ?_)
      · rw [if_pos c13] at h
        refine .reg rfl ?_
        refine .opp (P.mov .t2) rfl ?_
        refine .op (V.ld (v := Ag (api_Tx.cs a1)) .t2 .k0 (.agg isAgg36 sizeOf36 rfl rfl)) rfl ?_
        rcases pxe_eq h with ⟨e16, hr15, h⟩ | ⟨r14, hr15, h⟩
        · refine .opg (G.callx call64 (.cons .t1 (.cons .t0 .nil)) (S_escrow_State_draw b00 a0 z00a a1 (.er e16) hr15).er (.cons .k1 (.cons .k1 .nil)) .nil ?_) rfl fun _ h_ => h_.elim
          refine .inp ?_
          cases h
          exact .xer rfl
        · refine .opg (G.call call64 (.cons .t1 (.cons .t0 .nil)) (S_escrow_State_draw b00 a0 z00a a1 (.ok r14) hr15).ok (.cons .k1 (.cons .k1 .nil)) .nil (fun _ _ => rfl) (fun _ _ => rfl) rfl) rfl fun _ _ => ?_
          refine .drop .k0 ?_
          refine .nil ?_
          refine .inn ?_
          cases h
          refine .xokn ?_
          exact .finwn z00a (.r0 rfl) trivial (Ls.of (.cons .k0 (.cons .k0 .nil))) .nil
      · rw [if_neg (ne_true_of_eq_false c13)] at h
        refine .seq ?_
        refine .reg rfl ?_
        refine .opp (P.bin .g0 .k .eql) rfl ?_
        refine .opp (P.asg .t0) rfl ?_
        refine .nil ?_
        refine .then ?_
        refine .cond .t0 (fun c17 => ?_) (fun c17 => ?_)
        · rw [if_pos c17] at h
          refine .reg rfl ?_
          refine .opp (P.mov .t2) rfl ?_
          refine .op (V.ld (v := Ag (api_Tx.cs a1)) .t2 .k0 (.agg isAgg36 sizeOf36 rfl rfl)) rfl ?_
          rcases pxe_eq h with ⟨e20, hr19, h⟩ | ⟨r18, hr19, h⟩
          · refine .opg (G.callx call65 (.cons .t1 (.cons .t0 .nil)) (S_escrow_State_prepare b00 a0 z00a a1 (.er e20) hr19).er (.cons .k1 (.cons .k1 .nil)) .nil ?_) rfl fun _ h_ => h_.elim
            refine .inp ?_
            cases h
            exact .xer rfl
          · refine .opg (G.call call65 (.cons .t1 (.cons .t0 .nil)) (S_escrow_State_prepare b00 a0 z00a a1 (.ok r18) hr19).ok (.cons .k1 (.cons .k1 .nil)) .nil (fun _ _ => rfl) (fun _ _ => rfl) rfl) rfl fun u21 _ => ?_
            refine .drop .k0 ?_
            refine .nil ?_
            refine .inn ?_
            cases h
            refine .xokn ?_
            exact .finwn u21 (.r0 rfl) trivial (Ls.of (.cons .k0 (.cons .k0 .nil))) .nil
        · rw [if_neg (ne_true_of_eq_false c17)] at h
          refine .seq ?_
          refine .reg rfl ?_
          refine .opp (P.bin .g0 .k .eql) rfl ?_
          refine .opp (P.asg .t0) rfl ?_
          refine .nil ?_
          refine .then ?_
          refine .cond .t0 (fun c22 => ?_) (fun c22 => ?_)
          · rw [if_pos c22] at h
            refine .reg rfl ?_
            refine .opp (P.mov .t2) rfl ?_
            refine .op (V.ld (v := Ag (api_Tx.cs a1)) .t2 .k0 (.agg isAgg36 sizeOf36 rfl rfl)) rfl ?_
            rcases pxe_eq h with ⟨e25, hr24, h⟩ | ⟨r23, hr24, h⟩
            · refine .opg (G.callx call66 (.cons .t1 (.cons .t0 .nil)) (S_escrow_State_fulfil b00 a0 z00a a1 (.er e25) hr24).er (.cons .k1 (.cons .k1 .nil)) .nil ?_) rfl fun _ h_ => h_.elim
              refine .inp ?_
              cases h
              exact .xer rfl
            · refine .opg (G.call call66 (.cons .t1 (.cons .t0 .nil)) (S_escrow_State_fulfil b00 a0 z00a a1 (.ok r23) hr24).ok (.cons .k1 (.cons .k1 .nil)) .nil (fun _ _ => rfl) (fun _ _ => rfl) rfl) rfl fun _ _ => ?_
              refine .drop .k0 ?_
              refine .nil ?_
              refine .inn ?_
              cases h
              refine .xokn ?_
              exact .finwn z00a (.r0 rfl) trivial (Ls.of (.cons .k0 (.cons .k0 .nil))) .nil
          · rw [if_neg (ne_true_of_eq_false c22)] at h
            refine .seq ?_
            refine .reg rfl ?_
            refine .opp (P.bin .t0 .k .eql) rfl ?_
            refine .opp (P.asg .t0) rfl ?_
            refine .nil ?_
            refine .then ?_
            refine .cond .t0 (fun c26 => ?_) (fun c26 => ?_)
            · rw [if_pos c26] at h
              refine .reg rfl ?_
              refine .opp (P.mov .t1) rfl ?_
              refine .op (V.ld (v := Ag (api_Tx.cs a1)) .t1 .k0 (.agg isAgg36 sizeOf36 rfl rfl)) rfl ?_
              rcases pxe_eq h with ⟨e29, hr28, h⟩ | ⟨r27, hr28, h⟩
              · refine .opg (G.callx call67 (.cons .t1 (.cons .t0 .nil)) (S_escrow_State_cancel b00 a0 z00a a1 (.er e29) hr28).er (.cons .k1 (.cons .k1 .nil)) .nil ?_) rfl fun _ h_ => h_.elim
                refine .inp ?_
                cases h
                exact .xer rfl
              · refine .opg (G.call call67 (.cons .t1 (.cons .t0 .nil)) (S_escrow_State_cancel b00 a0 z00a a1 (.ok r27) hr28).ok (.cons .k1 (.cons .k1 .nil)) .nil (fun _ _ => rfl) (fun _ _ => rfl) rfl) rfl fun _ _ => ?_
                refine .drop .k0 ?_
                refine .nil ?_
                refine .inn ?_
                cases h
                refine .xokn ?_
                exact .finwn z00a (.r0 rfl) trivial (Ls.of (.cons .k0 (.cons .k0 .nil))) .nil
            · rw [if_neg (ne_true_of_eq_false c26)] at h
              refine .skip ?_
              refine .inn ?_
              cases h
              refine .xokn ?_
              exact .finwn z00a (.r0 rfl) trivial (Ls.of (.cons .k1 (.cons .k1 .nil))) .nil
attribute [irreducible] escrow_State_do
end Go.Sl
