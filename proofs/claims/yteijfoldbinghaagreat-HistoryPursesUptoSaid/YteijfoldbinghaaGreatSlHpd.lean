/- Walked code of the program, its pure functions and their contracts. -/
import Derived.Test.YteijfoldbinghaaGreatSlHpc
set_option linter.unusedVariables false
set_option linter.unusedSimpArgs false
namespace Go.Sl
open Go.Proofs Go.Proofs.Tryz
theorem fa_45_0 : FaV Tryz.prog 45 0 0 := .mk runUnderlying45 rfl sizeOf3 rfl rfl
theorem fa_45_1 : FaV Tryz.prog 45 1 1 := .mk runUnderlying45 rfl sizeOf3 rfl rfl
theorem fa_76_0 : FaV Tryz.prog 76 0 0 := .mk runUnderlying76 rfl sizeOf9 rfl rfl
noncomputable def bits_RotateLeft32 (a0 : UInt32) (a1 : Int) : UInt32 :=
  (lshW4 a0 (((Ui a1) &&& 31).toNat : Int)) ||| (rshW4 a0 ((32 - ((Ui a1) &&& 31)).toNat : Int))
set_option maxRecDepth 20000 in
set_option maxHeartbeats 1000000 in
theorem S_bits_RotateLeft32 (a0 : UInt32) (a1 : Int) (r : UInt32) (h : bits_RotateLeft32 a0 a1 = r) :
    SpecF Tryz.prog 128 [W4 a0, N a1] [] [] (fun z : Unit => True) (fun z => W4 r) (fun z M =>  M) (fun z M =>  M) := by
  refine .of func128 rfl ntmps128 rfl fun w0 D0 G0 => ?_
  unfold bits_RotateLeft32 at h
  refine .seq ?_
  refine .reg rfl ?_
  refine .op0 (OpP.toV (P.asg .k)) rfl ?_
  refine .nil ?_
  refine .then ?_
  refine .seq ?_
  refine .reg rfl ?_
  refine .opp (P.mov .t1) rfl ?_
  refine .opp (P.cnvU (m := a1) .t0 runUnderlying3 runUnderlying169) rfl ?_
  refine .opp (P.bin .t0 .k (BinV.andU (x := Ui a1) (y := 31))) rfl ?_
  refine .opp (P.asg .t0) rfl ?_
  refine .nil ?_
  refine .then ?_
  refine .seq ?_
  refine .reg rfl ?_
  refine .opp (P.mov .g1) rfl ?_
  refine .opp (P.mov .g1) rfl ?_
  refine .opp (P.bin .t1 .t0 (BinV.shlW4 (x := a0) (n := (((Ui a1) &&& 31).toNat : Int)) (Int.natCast_nonneg _))) rfl ?_
  refine .opp (P.mov .t2) rfl ?_
  refine .opp (P.mov .t2) rfl ?_
  refine .opp (P.bin .k .t0 (BinV.subU (x := 32) (y := (Ui a1) &&& 31))) rfl ?_
  refine .opp (P.bin .t1 .t0 (BinV.shrW4 (x := a0) (n := ((32 - ((Ui a1) &&& 31)).toNat : Int)) (Int.natCast_nonneg _))) rfl ?_
  refine .opp (P.bin .t1 .t0 (BinV.orW4 (x := lshW4 a0 (((Ui a1) &&& 31).toNat : Int)) (y := rshW4 a0 ((32 - ((Ui a1) &&& 31)).toNat : Int)))) rfl ?_
  refine .opp (P.asg .t0) rfl ?_
  refine .nil ?_
  refine .then ?_
  refine .ret ?_
  subst h
  exact .finw () (.r1 rfl (.tmp .g0)) trivial (Ls.of .nil) .nil
attribute [irreducible] bits_RotateLeft32
noncomputable def hash_rotr (a0 : UInt32) (a1 : Int) : UInt32 :=
  (bits_RotateLeft32 a0 (IntKind.i64.wrap (0 - a1)))
set_option maxRecDepth 20000 in
set_option maxHeartbeats 1000000 in
theorem S_hash_rotr (a0 : UInt32) (a1 : Int) (r : UInt32) (h : hash_rotr a0 a1 = r) :
    SpecF Tryz.prog 125 [W4 a0, N a1] [] [] (fun z : Unit => True) (fun z => W4 r) (fun z M =>  M) (fun z M =>  M) := by
  refine .of func125 rfl ntmps125 rfl fun w0 D0 G0 => ?_
  unfold hash_rotr at h
  refine .seq ?_
  refine .reg rfl ?_
  refine .op0 (OpP.toV (P.asg .k)) rfl ?_
  refine .nil ?_
  refine .then ?_
  refine .seq ?_
  refine .reg rfl ?_
  refine .opp (P.mov .t0) rfl ?_
  refine .opp (P.mov .t1) rfl ?_
  refine .opp (P.neg .t0) rfl ?_
  refine .opg (G.call call128 (.cons .t1 (.cons .t0 .nil)) (S_bits_RotateLeft32 a0 (IntKind.i64.wrap (0 - a1)) _ rfl) .nil .nil (fun _ _ => rfl) (fun _ _ => rfl) rfl) rfl fun _ _ => ?_
  refine .opp (P.asg .t0) rfl ?_
  refine .nil ?_
  refine .then ?_
  refine .ret ?_
  subst h
  exact .finw () (.r1 rfl (.tmp .g0)) trivial (Ls.of .nil) .nil
attribute [irreducible] hash_rotr
noncomputable def hash_three (a0 : UInt32) (a1 : Int) (a2 : Int) (a3 : Int) (a4 : Bool) : Option (UInt32) :=
  if a4 = true then (grd (0 ≤ a3) <| some (((hash_rotr a0 a1) ^^^ (hash_rotr a0 a2)) ^^^ (rshW4 a0 a3))) else (some (((hash_rotr a0 a1) ^^^ (hash_rotr a0 a2)) ^^^ (hash_rotr a0 a3)))
set_option maxRecDepth 20000 in
set_option maxHeartbeats 1000000 in
theorem S_hash_three (a0 : UInt32) (a1 : Int) (a2 : Int) (a3 : Int) (a4 : Bool) (r : UInt32) (h : hash_three a0 a1 a2 a3 a4 = some r) :
    SpecF Tryz.prog 118 [W4 a0, N a1, N a2, N a3, Bo a4] [] [] (fun z : Unit => True) (fun z => W4 r) (fun z M =>  M) (fun z M =>  M) := by
  refine .of func118 rfl ntmps118 rfl fun w0 D0 G0 => ?_
  unfold hash_three at h
  refine .seq ?_
  refine .reg rfl ?_
  refine .op0 (OpP.toV (P.asg .k)) rfl ?_
  refine .nil ?_
  refine .then ?_
  refine .seq ?_
  refine .seq ?_
  refine .reg rfl ?_
  refine .opp (P.mov .t4) rfl ?_
  refine .nil ?_
  refine .then ?_
  refine .cond .t0 (fun c1 => ?_) (fun c1 => ?_)
  · rw [if_pos c1] at h
    refine .seq ?_
    refine .draw 12 (.on 0 .pu (.on 1 .pu (.on 3 .pu (.on 4 .pu (.on 7 .pu (.on 8 .pu (.on 9 .pu (.on 2 .go (.on 5 .go (.on 6 .pu (.on 10 .pu (.on 11 .go .nl)))))))))))) follows_mixed (.thn (.thn .body)) (by kernel_rfl) ?_
    refine .dpu rfl (.n rfl) (P.mov .g0) rfl rfl ?_
    refine .dpu rfl (.n rfl) (P.mov .t2) rfl rfl ?_
    refine .dpu rfl (.n rfl) (P.mov .g2) rfl rfl ?_
    refine .dpu rfl (.n rfl) (P.mov .t4) rfl rfl ?_
    refine .dpu rfl (.n rfl) (P.mov .t4) rfl rfl ?_
    refine .dpu rfl (.n rfl) (P.mov .t5) rfl rfl ?_
    obtain ⟨hb2, h⟩ := grd_eq h
    refine .dpu rfl (.n rfl) (P.bin .t1 .t0 (BinV.shrW4 (x := a0) (n := a3) hb2)) rfl rfl ?_
    refine .dgo rfl (.n rfl) (G.call call125 (.cons .t4 (.cons .t3 .nil)) (S_hash_rotr a0 a1 _ rfl) .nil .nil (fun _ _ => rfl) (fun _ _ => rfl) rfl) (.inr fun _ _ _ h => h) fun _ _ => ?_
    refine .dgo rfl (.n rfl) (G.call call125 (.cons .t3 (.cons .t2 .nil)) (S_hash_rotr a0 a2 _ rfl) .nil .nil (fun _ _ => rfl) (fun _ _ => rfl) rfl) (.inr fun _ _ _ h => h) fun _ _ => ?_
    refine .dpu rfl (.n rfl) (P.bin .t1 .t0 (BinV.xorW4 (x := (hash_rotr a0 a1)) (y := (hash_rotr a0 a2)))) rfl rfl ?_
    refine .dpu rfl (.n rfl) (P.bin .t0 .t0 (BinV.xorW4 (x := (hash_rotr a0 a1) ^^^ (hash_rotr a0 a2)) (y := rshW4 a0 a3))) rfl rfl ?_
    refine .dgo rfl (.n rfl) (OpV.g (OpP.toV (P.asg .t0)) rfl) (.inr fun _ _ _ h => h) fun _ _ => ?_
    refine .dnil ?_
    refine .then ?_
    refine .ret ?_
    refine .thr ?_
    cases h
    exact .finw () (.r1 rfl (.tmp .g0)) trivial (Ls.of .nil) .nil
  · rw [if_neg (ne_true_of_eq_false c1)] at h
    refine .skip ?_
    refine .then ?_
    refine .seq ?_
    refine .reg rfl ?_
    refine .opp (P.mov .g0) rfl ?_
    refine .opp (P.mov .t2) rfl ?_
    refine .opg (G.call call125 (.cons .t1 (.cons .t0 .nil)) (S_hash_rotr a0 a1 _ rfl) .nil .nil (fun _ _ => rfl) (fun _ _ => rfl) rfl) rfl fun _ _ => ?_
    refine .opp (P.mov .g1) rfl ?_
    refine .opp (P.mov .t3) rfl ?_
    refine .opg (G.call call125 (.cons .t1 (.cons .t0 .nil)) (S_hash_rotr a0 a2 _ rfl) .nil .nil (fun _ _ => rfl) (fun _ _ => rfl) rfl) rfl fun _ _ => ?_
    refine .opp (P.bin .t1 .t0 (BinV.xorW4 (x := (hash_rotr a0 a1)) (y := (hash_rotr a0 a2)))) rfl ?_
    refine .opp (P.mov .t1) rfl ?_
    refine .opp (P.mov .t2) rfl ?_
    refine .opg (G.call call125 (.cons .t1 (.cons .t0 .nil)) (S_hash_rotr a0 a3 _ rfl) .nil .nil (fun _ _ => rfl) (fun _ _ => rfl) rfl) rfl fun _ _ => ?_
    refine .opp (P.bin .t1 .t0 (BinV.xorW4 (x := (hash_rotr a0 a1) ^^^ (hash_rotr a0 a2)) (y := (hash_rotr a0 a3)))) rfl ?_
    refine .opp (P.asg .t0) rfl ?_
    refine .nil ?_
    refine .then ?_
    refine .ret ?_
    cases h
    exact .finw () (.r1 rfl (.tmp .g0)) trivial (Ls.of .nil) .nil
attribute [irreducible] hash_three
noncomputable def hash_schedule (a0 : List UInt8) : Option (A64_u32) :=
  Option.bind (loopW (fun (s3 : Int × A64_u32) => if (decide (s3.1 < 16)) = true then (grd (okS a0.length (some (IntKind.i64.wrap (4 * s3.1))) (some (IntKind.i64.wrap ((IntKind.i64.wrap (4 * s3.1)) + 4))) none) <| Option.bind (blob_Int (slc a0 (IntKind.i64.wrap (4 * s3.1)).toNat (IntKind.i64.wrap ((IntKind.i64.wrap (4 * s3.1)) + 4)).toNat)) fun r17 => Option.bind (at_ (A64_u32.list s3.2) s3.1) fun (x19 : UInt32) => some (.nx ((IntKind.i64.wrap (s3.1 + 1), A64_u32.set s3.2 (s3.1).toNat (W4i r17))))) else (some (.br (s3.1, s3.2)))) (0, ⟨0, 0, 0, 0, 0, 0, 0, 0, 0, 0, 0, 0, 0, 0, 0, 0, 0, 0, 0, 0, 0, 0, 0, 0, 0, 0, 0, 0, 0, 0, 0, 0, 0, 0, 0, 0, 0, 0, 0, 0, 0, 0, 0, 0, 0, 0, 0, 0, 0, 0, 0, 0, 0, 0, 0, 0, 0, 0, 0, 0, 0, 0, 0, 0⟩)) fun o5 => Lo.on o5 fun (s3 : Int × A64_u32) => Option.bind (loopW (fun (s25 : Int × A64_u32) => if (decide (s25.1 < 64)) = true then (Option.bind (at_ (A64_u32.list s25.2) (IntKind.i64.wrap (s25.1 - 2))) fun (x35 : UInt32) => Option.bind (at_ (A64_u32.list s25.2) (IntKind.i64.wrap (s25.1 - 7))) fun (x39 : UInt32) => Option.bind (at_ (A64_u32.list s25.2) (IntKind.i64.wrap (s25.1 - 15))) fun (x43 : UInt32) => Option.bind (at_ (A64_u32.list s25.2) (IntKind.i64.wrap (s25.1 - 16))) fun (x47 : UInt32) => Option.bind (hash_three x35 17 19 10 true) fun r51 => Option.bind (hash_three x43 7 18 3 true) fun r53 => Option.bind (at_ (A64_u32.list s25.2) s25.1) fun (x55 : UInt32) => some (.nx ((IntKind.i64.wrap (s25.1 + 1), A64_u32.set s25.2 (s25.1).toNat (((r51 + x39) + r53) + x47))))) else (some (.br (s25.1, s25.2)))) (16, s3.2)) fun o27 => Lo.on o27 fun (s25 : Int × A64_u32) => some s25.2
set_option maxRecDepth 20000 in
set_option maxHeartbeats 1000000 in
theorem S_hash_schedule (v00 : Value) (a0 : List UInt8) (r : A64_u32) (h : hash_schedule a0 = some r) :
    SpecF Tryz.prog 105 [v00] [] [rows 1 v00 (a0.map (fun x => [B8 x]))] (fun z : Unit => True) (fun z => Ag (A64_u32.cs r)) (fun z M =>  M) (fun z M =>  M) := by
  refine .of func105 rfl ntmps105 rfl fun w0 D0 G0 => ?_
  unfold hash_schedule at h
  refine .seq ?_
  refine .reg rfl ?_
  refine .opx (X.alc (cs := (A64_u32.cs ⟨0, 0, 0, 0, 0, 0, 0, 0, 0, 0, 0, 0, 0, 0, 0, 0, 0, 0, 0, 0, 0, 0, 0, 0, 0, 0, 0, 0, 0, 0, 0, 0, 0, 0, 0, 0, 0, 0, 0, 0, 0, 0, 0, 0, 0, 0, 0, 0, 0, 0, 0, 0, 0, 0, 0, 0, 0, 0, 0, 0, 0, 0, 0, 0⟩)) zeroValue159 rfl) rfl fun b1 => ?_
  refine .nil ?_
  refine .then ?_
  refine .seq ?_
  refine .reg rfl ?_
  refine .opx (X.alc (cs := (A64_u32.cs ⟨0, 0, 0, 0, 0, 0, 0, 0, 0, 0, 0, 0, 0, 0, 0, 0, 0, 0, 0, 0, 0, 0, 0, 0, 0, 0, 0, 0, 0, 0, 0, 0, 0, 0, 0, 0, 0, 0, 0, 0, 0, 0, 0, 0, 0, 0, 0, 0, 0, 0, 0, 0, 0, 0, 0, 0, 0, 0, 0, 0, 0, 0, 0, 0⟩)) zeroValue159 rfl) rfl fun b2 => ?_
  refine .nil ?_
  refine .then ?_
  refine .seq ?_
  refine .seq ?_
  refine .reg rfl ?_
  refine .opp (P.mov .k) rfl ?_
  refine .nil ?_
  refine .then ?_
  refine .block ?_
  obtain ⟨o5, ho6, h⟩ := bnd_eq h
  refine .loopW (γ := Unit) (fun (s3 : Int × A64_u32) z4 => [(6, N s3.1), (3, pt b2 0), (2, pt b1 0), (0, v00)]) (fun (s3 : Int × A64_u32) z4 => [blk b2 159 (A64_u32.cs s3.2), blk b1 159 (A64_u32.cs ⟨0, 0, 0, 0, 0, 0, 0, 0, 0, 0, 0, 0, 0, 0, 0, 0, 0, 0, 0, 0, 0, 0, 0, 0, 0, 0, 0, 0, 0, 0, 0, 0, 0, 0, 0, 0, 0, 0, 0, 0, 0, 0, 0, 0, 0, 0, 0, 0, 0, 0, 0, 0, 0, 0, 0, 0, 0, 0, 0, 0, 0, 0, 0, 0⟩)]) (fun (s3 : Int × A64_u32) z4 => [rows 1 v00 (a0.map (fun x => [B8 x]))]) () ho6 (.cons Mm.m0 (.cons Mm.m1 (.cons Mm.m2 (.cons Mm.m3 .nil)))) (.of (.cons .k0 (.cons .k0 .nil))) (.cons Mm.m0 .nil) (fun n11 s3 z4 hr9 => ?_)
  obtain ⟨ct10, hc7, hn8⟩ := loopK_at hr9
  refine .seq ?_
  refine .reg rfl ?_
  refine .opp (P.bin .g0 .k .lss) rfl ?_
  refine .nil ?_
  refine .then ?_
  refine .seq ?_
  refine .cond .t0 (fun c12 => ?_) (fun c12 => ?_)
  · rw [if_pos c12] at hc7
    refine .skip ?_
    refine .then ?_
    refine .seq ?_
    refine .block ?_
    refine .seq ?_
    refine .reg rfl ?_
    refine .opp (P.mov .g0) rfl ?_
    refine .opp (P.asg .t0) rfl ?_
    refine .nil ?_
    refine .then ?_
    refine .reg rfl ?_
    refine .opp (P.mov .g0) rfl ?_
    refine .opp (P.mov .g5) rfl ?_
    refine .opp (P.mov .g2) rfl ?_
    refine .opp (P.bin .k .t0 .mul) rfl ?_
    refine .opp (P.mov .t3) rfl ?_
    refine .opp (P.bin .k .t0 .mul) rfl ?_
    refine .opp (P.bin .t0 .k .add) rfl ?_
    obtain ⟨hb13, hc7⟩ := grd_eq hc7
    refine .capq Mm.m0 fun hc15 => ?_
    refine .opg (G.slr (li := (some (IntKind.i64.wrap (4 * s3.1)))) (hj := (some (IntKind.i64.wrap ((IntKind.i64.wrap (4 * s3.1)) + 4)))) (mk := none) .t2 (.some .t1) (.some .t0) .none Mm.m0 hc15 runUnderlying131 sizeOf5 (by simpa using hb13) rfl) rfl fun u14 hu16 => ?_
    refine .rhead (q := rows 1 u14 ((slc a0 (IntKind.i64.wrap (4 * s3.1)).toNat (IntKind.i64.wrap ((IntKind.i64.wrap (4 * s3.1)) + 4)).toNat).map (fun x => [B8 x]))) (fun _ hh => by simpa [slc_map] using hh) ?_
    obtain ⟨r17, hr18, hc7⟩ := bnd_eq hc7
    refine .opg (G.call call117 (.cons .t0 .nil) (S_blob_Int u14 (slc a0 (IntKind.i64.wrap (4 * s3.1)).toNat (IntKind.i64.wrap ((IntKind.i64.wrap (4 * s3.1)) + 4)).toNat) r17 hr18) .nil (.cons Mm.m0 .nil) (fun _ _ => rfl) (fun _ _ => rfl) rfl) rfl fun _ _ => ?_
    refine .opp (P.cnvW4 (m := r17) .t0 runUnderlying3 runUnderlying155) rfl ?_
    obtain ⟨x19, hx20, hc7⟩ := bnd_eq hc7
    obtain ⟨i21, hi22, hx20⟩ := at_eq hx20
    have hi22_ : (s3.1).toNat = i21 := by rw [hi22]; rfl
    refine .opp (P.iad (i := i21) (off' := (0 + i21 * 1)) .t1 hi22 .g2 runUnderlying159 sizeOf155 (lt_of_get hx20) rfl) rfl ?_
    refine .opg (G.str (cs' := (A64_u32.cs (A64_u32.set s3.2 i21 (W4i r17)))) .t1 .t0 .k0 (by rcases i21 with _ | _ | _ | _ | _ | _ | _ | _ | _ | _ | _ | _ | _ | _ | _ | _ | _ | _ | _ | _ | _ | _ | _ | _ | _ | _ | _ | _ | _ | _ | _ | _ | _ | _ | _ | _ | _ | _ | _ | _ | _ | _ | _ | _ | _ | _ | _ | _ | _ | _ | _ | _ | _ | _ | _ | _ | _ | _ | _ | _ | _ | _ | _ | _ | _ <;> first | (obtain rfl := Option.some.inj hx20; exact StV.mk sizeOf155 rfl rfl rfl rfl) | (cases hx20; done))) rfl fun _ _ => ?_
    refine .conseq .k0 (q := blk b2 159 (A64_u32.cs (A64_u32.set s3.2 (s3.1).toNat (W4i r17)))) (fun _ h_ => by rw [hi22_]; exact h_) ?_
    refine .nil ?_
    refine .inn ?_
    refine .then ?_
    refine .reg rfl ?_
    refine .opp (P.bin .g0 .k .add) rfl ?_
    refine .drop .k1 ?_
    refine .opp (P.mov .t0) rfl ?_
    refine .nil ?_
    cases hc7
    obtain ⟨m23, hm24, hn8⟩ := hn8
    exact .rdW ((IntKind.i64.wrap (s3.1 + 1), A64_u32.set s3.2 (s3.1).toNat (W4i r17))) () hm24 hn8 (.cons Mm.m0 (.cons Mm.m1 (.cons Mm.m2 (.cons Mm.m3 .nil)))) (.of (.cons .k0 (.cons .k0 .nil))) (.cons Mm.m1 .nil)
  · rw [if_neg (ne_true_of_eq_false c12)] at hc7
    refine .exit ?_
    refine .thx ?_
    cases hc7
    refine .told (γ := Unit) h hn8 (fun (s3 : Int × A64_u32) _ => [(6, N s3.1), (3, pt b2 0), (2, pt b1 0), (0, v00)]) (fun (s3 : Int × A64_u32) _ => [blk b2 159 (A64_u32.cs s3.2), blk b1 159 (A64_u32.cs ⟨0, 0, 0, 0, 0, 0, 0, 0, 0, 0, 0, 0, 0, 0, 0, 0, 0, 0, 0, 0, 0, 0, 0, 0, 0, 0, 0, 0, 0, 0, 0, 0, 0, 0, 0, 0, 0, 0, 0, 0, 0, 0, 0, 0, 0, 0, 0, 0, 0, 0, 0, 0, 0, 0, 0, 0, 0, 0, 0, 0, 0, 0, 0, 0⟩)]) (fun (s3 : Int × A64_u32) _ => [rows 1 v00 (a0.map (fun x => [B8 x]))]) () (.cons Mm.m0 (.cons Mm.m1 (.cons Mm.m2 (.cons Mm.m3 .nil)))) (.of (.cons .k0 (.cons .k0 .nil))) (.cons Mm.m0 .nil) (fun s3 _ h' => ?_)
    replace h := h'
    refine .thx ?_
    refine .inb ?_
    refine .then ?_
    refine .seq ?_
    refine .seq ?_
    refine .reg rfl ?_
    refine .opp (P.asg .k) rfl ?_
    refine .nil ?_
    refine .then ?_
    refine .block ?_
    obtain ⟨o27, ho28, h⟩ := bnd_eq h
    refine .loopW (γ := Unit) (fun (s25 : Int × A64_u32) z26 => [(5, N s25.1), (3, pt b2 0), (2, pt b1 0)]) (fun (s25 : Int × A64_u32) z26 => [blk b2 159 (A64_u32.cs s25.2), blk b1 159 (A64_u32.cs ⟨0, 0, 0, 0, 0, 0, 0, 0, 0, 0, 0, 0, 0, 0, 0, 0, 0, 0, 0, 0, 0, 0, 0, 0, 0, 0, 0, 0, 0, 0, 0, 0, 0, 0, 0, 0, 0, 0, 0, 0, 0, 0, 0, 0, 0, 0, 0, 0, 0, 0, 0, 0, 0, 0, 0, 0, 0, 0, 0, 0, 0, 0, 0, 0⟩)]) (fun (s25 : Int × A64_u32) z26 => [rows 1 v00 (a0.map (fun x => [B8 x]))]) () ho28 (.cons Mm.m0 (.cons Mm.m2 (.cons Mm.m3 .nil))) (.of (.cons .k0 (.cons .k0 .nil))) (.cons Mm.m0 .nil) (fun n33 s25 z26 hr31 => ?_)
    obtain ⟨ct32, hc29, hn30⟩ := loopK_at hr31
    refine .seq ?_
    refine .seq ?_
    refine .reg rfl ?_
    refine .opp (P.mov .g0) rfl ?_
    refine .opp (P.bin .t0 .k .lss) rfl ?_
    refine .nil ?_
    refine .then ?_
    refine .cond .t0 (fun c34 => ?_) (fun c34 => ?_)
    · rw [if_pos c34] at hc29
      refine .skip ?_
      refine .then ?_
      refine .seq ?_
      refine .block ?_
      refine .draw 23 (.on 0 .pu (.on 1 .pu (.on 2 .pu (.on 3 .pu (.on 6 .pu (.on 7 .pu (.on 8 .pu (.on 11 .pu (.on 12 .pu (.on 13 .pu (.on 17 .pu (.on 18 .pu (.on 19 .pu (.on 4 .ld (.on 9 .ld (.on 14 .ld (.on 20 .ld (.on 5 .go (.on 10 .pu (.on 15 .go (.on 16 .pu (.on 21 .pu (.on 22 .pu (.on 23 .go .nl)))))))))))))))))))))))) follows_mixed (.inb (.thn (.thn (.inb (.thn .body))))) (by kernel_rfl) ?_
      refine .dpu rfl (.n rfl) (P.mov .g0) rfl rfl ?_
      refine .dpu rfl (.n rfl) (P.mov .g1) rfl rfl ?_
      refine .dpu rfl (.n rfl) (P.bin .t0 .k .sub) rfl rfl ?_
      obtain ⟨x35, hx36, hc29⟩ := bnd_eq hc29
      obtain ⟨i37, hi38, hx36⟩ := at_eq hx36
      have hi38_ : (IntKind.i64.wrap (s25.1 - 2)).toNat = i37 := by rw [hi38]; rfl
      refine .dpu rfl (.n rfl) (P.iad (i := i37) (off' := (0 + i37 * 1)) .t0 hi38 .g2 runUnderlying159 sizeOf155 (lt_of_get hx36) rfl) rfl rfl ?_
      refine .dpu rfl (.n rfl) (P.mov .g2) rfl rfl ?_
      refine .dpu rfl (.n rfl) (P.bin .t0 .k .sub) rfl rfl ?_
      obtain ⟨x39, hx40, hc29⟩ := bnd_eq hc29
      obtain ⟨i41, hi42, hx40⟩ := at_eq hx40
      have hi42_ : (IntKind.i64.wrap (s25.1 - 7)).toNat = i41 := by rw [hi42]; rfl
      refine .dpu rfl (.n rfl) (P.iad (i := i41) (off' := (0 + i41 * 1)) .t0 hi42 .g3 runUnderlying159 sizeOf155 (lt_of_get hx40) rfl) rfl rfl ?_
      refine .dpu rfl (.n rfl) (P.mov .g3) rfl rfl ?_
      refine .dpu rfl (.n rfl) (P.bin .t0 .k .sub) rfl rfl ?_
      obtain ⟨x43, hx44, hc29⟩ := bnd_eq hc29
      obtain ⟨i45, hi46, hx44⟩ := at_eq hx44
      have hi46_ : (IntKind.i64.wrap (s25.1 - 15)).toNat = i45 := by rw [hi46]; rfl
      refine .dpu rfl (.n rfl) (P.iad (i := i45) (off' := (0 + i45 * 1)) .t0 hi46 .g4 runUnderlying159 sizeOf155 (lt_of_get hx44) rfl) rfl rfl ?_
      refine .dpu rfl (.n rfl) (P.mov .g4) rfl rfl ?_
      refine .dpu rfl (.n rfl) (P.bin .t0 .k .sub) rfl rfl ?_
      obtain ⟨x47, hx48, hc29⟩ := bnd_eq hc29
      obtain ⟨i49, hi50, hx48⟩ := at_eq hx48
      have hi50_ : (IntKind.i64.wrap (s25.1 - 16)).toNat = i49 := by rw [hi50]; rfl
      refine .dpu rfl (.n rfl) (P.iad (i := i49) (off' := (0 + i49 * 1)) .t0 hi50 .g5 runUnderlying159 sizeOf155 (lt_of_get hx48) rfl) rfl rfl ?_
      refine .dld rfl (.n rfl) (V.ld (v := W4 x35) .t3 .k0 (by rcases i37 with _ | _ | _ | _ | _ | _ | _ | _ | _ | _ | _ | _ | _ | _ | _ | _ | _ | _ | _ | _ | _ | _ | _ | _ | _ | _ | _ | _ | _ | _ | _ | _ | _ | _ | _ | _ | _ | _ | _ | _ | _ | _ | _ | _ | _ | _ | _ | _ | _ | _ | _ | _ | _ | _ | _ | _ | _ | _ | _ | _ | _ | _ | _ | _ | _ <;> first | (obtain rfl := Option.some.inj hx36; exact LdV.one isAgg155 rfl) | (cases hx36; done))) (fun _ h => h) rfl rfl ?_
      refine .dld rfl (.n rfl) (V.ld (v := W4 x39) .t3 .k0 (by rcases i41 with _ | _ | _ | _ | _ | _ | _ | _ | _ | _ | _ | _ | _ | _ | _ | _ | _ | _ | _ | _ | _ | _ | _ | _ | _ | _ | _ | _ | _ | _ | _ | _ | _ | _ | _ | _ | _ | _ | _ | _ | _ | _ | _ | _ | _ | _ | _ | _ | _ | _ | _ | _ | _ | _ | _ | _ | _ | _ | _ | _ | _ | _ | _ | _ | _ <;> first | (obtain rfl := Option.some.inj hx40; exact LdV.one isAgg155 rfl) | (cases hx40; done))) (fun _ h => h) rfl rfl ?_
      refine .dld rfl (.n rfl) (V.ld (v := W4 x43) .t3 .k0 (by rcases i45 with _ | _ | _ | _ | _ | _ | _ | _ | _ | _ | _ | _ | _ | _ | _ | _ | _ | _ | _ | _ | _ | _ | _ | _ | _ | _ | _ | _ | _ | _ | _ | _ | _ | _ | _ | _ | _ | _ | _ | _ | _ | _ | _ | _ | _ | _ | _ | _ | _ | _ | _ | _ | _ | _ | _ | _ | _ | _ | _ | _ | _ | _ | _ | _ | _ <;> first | (obtain rfl := Option.some.inj hx44; exact LdV.one isAgg155 rfl) | (cases hx44; done))) (fun _ h => h) rfl rfl ?_
      refine .dld rfl (.n rfl) (V.ld (v := W4 x47) .t3 .k0 (by rcases i49 with _ | _ | _ | _ | _ | _ | _ | _ | _ | _ | _ | _ | _ | _ | _ | _ | _ | _ | _ | _ | _ | _ | _ | _ | _ | _ | _ | _ | _ | _ | _ | _ | _ | _ | _ | _ | _ | _ | _ | _ | _ | _ | _ | _ | _ | _ | _ | _ | _ | _ | _ | _ | _ | _ | _ | _ | _ | _ | _ | _ | _ | _ | _ | _ | _ <;> first | (obtain rfl := Option.some.inj hx48; exact LdV.one isAgg155 rfl) | (cases hx48; done))) (fun _ h => h) rfl rfl ?_
      obtain ⟨r51, hr52, hc29⟩ := bnd_eq hc29
      refine .dgo rfl (.n rfl) (G.call call118 (.cons .t3 (.cons .k (.cons .k (.cons .k (.cons .k .nil))))) (S_hash_three x35 17 19 10 true r51 hr52) .nil .nil (fun _ _ => rfl) (fun _ _ => rfl) rfl) (.inr fun _ _ _ h => h) fun _ _ => ?_
      refine .dpu rfl (.n rfl) (P.bin .t0 .t2 (BinV.addW4 (x := r51) (y := x39))) rfl rfl ?_
      obtain ⟨r53, hr54, hc29⟩ := bnd_eq hc29
      refine .dgo rfl (.n rfl) (G.call call118 (.cons .t2 (.cons .k (.cons .k (.cons .k (.cons .k .nil))))) (S_hash_three x43 7 18 3 true r53 hr54) .nil .nil (fun _ _ => rfl) (fun _ _ => rfl) rfl) (.inr fun _ _ _ h => h) fun _ _ => ?_
      refine .dpu rfl (.n rfl) (P.bin .t1 .t0 (BinV.addW4 (x := r51 + x39) (y := r53))) rfl rfl ?_
      refine .dpu rfl (.n rfl) (P.bin .t0 .t0 (BinV.addW4 (x := (r51 + x39) + r53) (y := x47))) rfl rfl ?_
      obtain ⟨x55, hx56, hc29⟩ := bnd_eq hc29
      obtain ⟨i57, hi58, hx56⟩ := at_eq hx56
      have hi58_ : (s25.1).toNat = i57 := by rw [hi58]; rfl
      refine .dpu rfl (.n rfl) (P.iad (i := i57) (off' := (0 + i57 * 1)) .t1 hi58 .g2 runUnderlying159 sizeOf155 (lt_of_get hx56) rfl) rfl rfl ?_
      refine .dgo rfl (.n rfl) (G.str (cs' := (A64_u32.cs (A64_u32.set s25.2 i57 (((r51 + x39) + r53) + x47)))) .t1 .t0 .k0 (by rcases i57 with _ | _ | _ | _ | _ | _ | _ | _ | _ | _ | _ | _ | _ | _ | _ | _ | _ | _ | _ | _ | _ | _ | _ | _ | _ | _ | _ | _ | _ | _ | _ | _ | _ | _ | _ | _ | _ | _ | _ | _ | _ | _ | _ | _ | _ | _ | _ | _ | _ | _ | _ | _ | _ | _ | _ | _ | _ | _ | _ | _ | _ | _ | _ | _ | _ <;> first | (obtain rfl := Option.some.inj hx56; exact StV.mk sizeOf155 rfl rfl rfl rfl) | (cases hx56; done))) (.inl rfl) fun _ _ => ?_
      refine .conseq .k0 (q := blk b2 159 (A64_u32.cs (A64_u32.set s25.2 (s25.1).toNat (((r51 + x39) + r53) + x47)))) (fun _ h_ => by rw [hi58_]; exact h_) ?_
      refine .dnil ?_
      refine .inn ?_
      refine .then ?_
      refine .reg rfl ?_
      refine .opp (P.mov .g0) rfl ?_
      refine .opp (P.bin .t0 .k .add) rfl ?_
      refine .drop .k1 ?_
      refine .opp (P.asg .t0) rfl ?_
      refine .nil ?_
      cases hc29
      obtain ⟨m59, hm60, hn30⟩ := hn30
      exact .rdW ((IntKind.i64.wrap (s25.1 + 1), A64_u32.set s25.2 (s25.1).toNat (((r51 + x39) + r53) + x47))) () hm60 hn30 (.cons Mm.m0 (.cons Mm.m1 (.cons Mm.m2 .nil))) (.of (.cons .k0 (.cons .k0 .nil))) (.cons Mm.m0 .nil)
    · rw [if_neg (ne_true_of_eq_false c34)] at hc29
      refine .exit ?_
      refine .thx ?_
      cases hc29
      refine .told (γ := Unit) h hn30 (fun (s25 : Int × A64_u32) _ => [(5, N s25.1), (3, pt b2 0), (2, pt b1 0)]) (fun (s25 : Int × A64_u32) _ => [blk b2 159 (A64_u32.cs s25.2), blk b1 159 (A64_u32.cs ⟨0, 0, 0, 0, 0, 0, 0, 0, 0, 0, 0, 0, 0, 0, 0, 0, 0, 0, 0, 0, 0, 0, 0, 0, 0, 0, 0, 0, 0, 0, 0, 0, 0, 0, 0, 0, 0, 0, 0, 0, 0, 0, 0, 0, 0, 0, 0, 0, 0, 0, 0, 0, 0, 0, 0, 0, 0, 0, 0, 0, 0, 0, 0, 0⟩)]) (fun (s25 : Int × A64_u32) _ => [rows 1 v00 (a0.map (fun x => [B8 x]))]) () (.cons Mm.m0 (.cons Mm.m1 (.cons Mm.m2 .nil))) (.of (.cons .k0 (.cons .k0 .nil))) (.cons Mm.m0 .nil) (fun s25 _ h' => ?_)
      replace h := h'
      refine .thx ?_
      refine .inb ?_
      refine .then ?_
      refine .seq ?_
      refine .reg rfl ?_
      refine .op (V.ld (v := Ag (A64_u32.cs s25.2)) .t1 .k0 (.agg isAgg159 sizeOf159 rfl rfl)) rfl ?_
      refine .opg (G.str .t0 .g1 .k1 (.mk (cs' := (A64_u32.cs s25.2)) sizeOf159 rfl rfl rfl rfl)) rfl fun _ _ => ?_
      refine .nil ?_
      refine .then ?_
      refine .ret ?_
      cases h
      exact .finw () (.r1 rfl (.cell .g1 .k0 (.agg isAgg159 sizeOf159 rfl rfl))) trivial (Ls.of .nil) .nil
attribute [irreducible] hash_schedule
noncomputable def hash_eight_round (a0 : hash_eight) (a1 : UInt32) : Option (hash_eight) :=
  Option.bind (hash_three a0.a4 6 11 25 false) fun r3 => Option.bind (hash_three a0.a0 2 13 22 false) fun r5 => some ⟨(((a0.a7 + r3) + ((a0.a4 &&& a0.a5) ^^^ ((4294967295 ^^^ a0.a4) &&& a0.a6))) + a1) + (r5 + (((a0.a0 &&& a0.a1) ^^^ (a0.a0 &&& a0.a2)) ^^^ (a0.a1 &&& a0.a2))), a0.a0, a0.a1, a0.a2, a0.a3 + (((a0.a7 + r3) + ((a0.a4 &&& a0.a5) ^^^ ((4294967295 ^^^ a0.a4) &&& a0.a6))) + a1), a0.a4, a0.a5, a0.a6⟩
set_option maxRecDepth 20000 in
set_option maxHeartbeats 1000000 in
theorem S_hash_eight_round (a0 : hash_eight) (a1 : UInt32) (r : hash_eight) (h : hash_eight_round a0 a1 = some r) :
    SpecF Tryz.prog 106 [Ag (hash_eight.cs a0), W4 a1] [] [] (fun z : Unit => True) (fun z => Ag (hash_eight.cs r)) (fun z M =>  M) (fun z M =>  M) := by
  refine .of func106 rfl ntmps106 rfl fun w0 D0 G0 => ?_
  unfold hash_eight_round at h
  refine .seq ?_
  refine .reg rfl ?_
  refine .opx (X.box (cs := (hash_eight.cs a0)) .t0 rfl) rfl fun b1 => ?_
  refine .opx (X.alc (cs := (hash_eight.cs ⟨0, 0, 0, 0, 0, 0, 0, 0⟩)) zeroValue157 rfl) rfl fun b2 => ?_
  refine .nil ?_
  refine .then ?_
  refine .seq ?_
  refine .reg rfl ?_
  refine .opp (P.iac (i := 4) .k rfl .g1 runUnderlying157 sizeOf155 rfl rfl) rfl ?_
  refine .op (V.ld (v := W4 a0.a4) .t0 .k1 (.one isAgg155 rfl)) rfl ?_
  refine .opp (P.asg .t0) rfl ?_
  refine .nil ?_
  refine .then ?_
  refine .seq ?_
  refine .draw 19 (.on 0 .pu (.on 2 .pu (.on 5 .pu (.on 6 .pu (.on 9 .pu (.on 10 .pu (.on 11 .pu (.on 16 .pu (.on 1 .ld (.on 7 .ld (.on 8 .pu (.on 12 .ld (.on 13 .pu (.on 14 .pu (.on 3 .go (.on 4 .pu (.on 15 .pu (.on 17 .pu (.on 18 .go .nl))))))))))))))))))) follows_mixed (.thn .body) (by kernel_rfl) ?_
  refine .dpu rfl (.n rfl) (P.iac (i := 7) .k rfl .g2 runUnderlying157 sizeOf155 rfl rfl) rfl rfl ?_
  refine .dpu rfl (.n rfl) (P.mov .g1) rfl rfl ?_
  refine .dpu rfl (.n rfl) (P.mov .g2) rfl rfl ?_
  refine .dpu rfl (.n rfl) (P.iac (i := 5) .k rfl .g5 runUnderlying157 sizeOf155 rfl rfl) rfl rfl ?_
  refine .dpu rfl (.n rfl) (P.mov .t4) rfl rfl ?_
  refine .dpu rfl (.n rfl) (P.xorW4 .t0) rfl rfl ?_
  refine .dpu rfl (.n rfl) (P.iac (i := 6) .k rfl .g6 runUnderlying157 sizeOf155 rfl rfl) rfl rfl ?_
  refine .dpu rfl (.n rfl) (P.mov .t8) rfl rfl ?_
  refine .dld rfl (.n rfl) (V.ld (v := W4 a0.a7) .t6 .k1 (.one isAgg155 rfl)) (fun _ h => h) rfl rfl ?_
  refine .dld rfl (.n rfl) (V.ld (v := W4 a0.a5) .t4 .k1 (.one isAgg155 rfl)) (fun _ h => h) rfl rfl ?_
  refine .dpu rfl (.n rfl) (P.bin .t5 .t0 (BinV.andW4 (x := a0.a4) (y := a0.a5))) rfl rfl ?_
  refine .dld rfl (.n rfl) (V.ld (v := W4 a0.a6) .t3 .k1 (.one isAgg155 rfl)) (fun _ h => h) rfl rfl ?_
  refine .dpu rfl (.n rfl) (P.bin .t4 .t0 (BinV.andW4 (x := 4294967295 ^^^ a0.a4) (y := a0.a6))) rfl rfl ?_
  refine .dpu rfl (.n rfl) (P.bin .t1 .t0 (BinV.xorW4 (x := a0.a4 &&& a0.a5) (y := (4294967295 ^^^ a0.a4) &&& a0.a6))) rfl rfl ?_
  obtain ⟨r3, hr4, h⟩ := bnd_eq h
  refine .dgo rfl (.n rfl) (G.call call118 (.cons .t3 (.cons .k (.cons .k (.cons .k (.cons .k .nil))))) (S_hash_three a0.a4 6 11 25 false r3 hr4) .nil .nil (fun _ _ => rfl) (fun _ _ => rfl) rfl) (.inr fun _ _ _ h => h) fun _ _ => ?_
  refine .dpu rfl (.n rfl) (P.bin .t2 .t0 (BinV.addW4 (x := a0.a7) (y := r3))) rfl rfl ?_
  refine .dpu rfl (.n rfl) (P.bin .t0 .t0 (BinV.addW4 (x := a0.a7 + r3) (y := (a0.a4 &&& a0.a5) ^^^ ((4294967295 ^^^ a0.a4) &&& a0.a6)))) rfl rfl ?_
  refine .dpu rfl (.n rfl) (P.bin .t0 .t0 (BinV.addW4 (x := (a0.a7 + r3) + ((a0.a4 &&& a0.a5) ^^^ ((4294967295 ^^^ a0.a4) &&& a0.a6))) (y := a1))) rfl rfl ?_
  refine .dgo rfl (.n rfl) (OpV.g (OpP.toV (P.asg .t0)) rfl) (.inr fun _ _ _ h => h) fun _ _ => ?_
  refine .dnil ?_
  refine .then ?_
  refine .seq ?_
  refine .draw 22 (.on 0 .pu (.on 3 .pu (.on 5 .pu (.on 8 .pu (.on 10 .pu (.on 14 .pu (.on 16 .pu (.on 1 .ld (.on 4 .ld (.on 6 .ld (.on 7 .pu (.on 9 .ld (.on 11 .ld (.on 12 .pu (.on 13 .pu (.on 15 .ld (.on 17 .ld (.on 18 .pu (.on 19 .pu (.on 2 .go (.on 20 .pu (.on 21 .go .nl)))))))))))))))))))))) follows_mixed (.thn .body) (by kernel_rfl) ?_
  refine .dpu rfl (.n rfl) (P.iac (i := 0) .k rfl .g2 runUnderlying157 sizeOf155 rfl rfl) rfl rfl ?_
  refine .dpu rfl (.n rfl) (P.iac (i := 0) .k rfl .g3 runUnderlying157 sizeOf155 rfl rfl) rfl rfl ?_
  refine .dpu rfl (.n rfl) (P.iac (i := 1) .k rfl .g4 runUnderlying157 sizeOf155 rfl rfl) rfl rfl ?_
  refine .dpu rfl (.n rfl) (P.iac (i := 0) .k rfl .g5 runUnderlying157 sizeOf155 rfl rfl) rfl rfl ?_
  refine .dpu rfl (.n rfl) (P.iac (i := 2) .k rfl .g6 runUnderlying157 sizeOf155 rfl rfl) rfl rfl ?_
  refine .dpu rfl (.n rfl) (P.iac (i := 1) .k rfl .g7 runUnderlying157 sizeOf155 rfl rfl) rfl rfl ?_
  refine .dpu rfl (.n rfl) (P.iac (i := 2) .k rfl .g8 runUnderlying157 sizeOf155 rfl rfl) rfl rfl ?_
  refine .dld rfl (.n rfl) (V.ld (v := W4 a0.a0) .t6 .k1 (.one isAgg155 rfl)) (fun _ h => h) rfl rfl ?_
  refine .dld rfl (.n rfl) (V.ld (v := W4 a0.a0) .t6 .k1 (.one isAgg155 rfl)) (fun _ h => h) rfl rfl ?_
  refine .dld rfl (.n rfl) (V.ld (v := W4 a0.a1) .t6 .k1 (.one isAgg155 rfl)) (fun _ h => h) rfl rfl ?_
  refine .dpu rfl (.n rfl) (P.bin .t1 .t0 (BinV.andW4 (x := a0.a0) (y := a0.a1))) rfl rfl ?_
  refine .dld rfl (.n rfl) (V.ld (v := W4 a0.a0) .t5 .k1 (.one isAgg155 rfl)) (fun _ h => h) rfl rfl ?_
  refine .dld rfl (.n rfl) (V.ld (v := W4 a0.a2) .t5 .k1 (.one isAgg155 rfl)) (fun _ h => h) rfl rfl ?_
  refine .dpu rfl (.n rfl) (P.bin .t1 .t0 (BinV.andW4 (x := a0.a0) (y := a0.a2))) rfl rfl ?_
  refine .dpu rfl (.n rfl) (P.bin .t1 .t0 (BinV.xorW4 (x := a0.a0 &&& a0.a1) (y := a0.a0 &&& a0.a2))) rfl rfl ?_
  refine .dld rfl (.n rfl) (V.ld (v := W4 a0.a1) .t3 .k1 (.one isAgg155 rfl)) (fun _ h => h) rfl rfl ?_
  refine .dld rfl (.n rfl) (V.ld (v := W4 a0.a2) .t3 .k1 (.one isAgg155 rfl)) (fun _ h => h) rfl rfl ?_
  refine .dpu rfl (.n rfl) (P.bin .t1 .t0 (BinV.andW4 (x := a0.a1) (y := a0.a2))) rfl rfl ?_
  refine .dpu rfl (.n rfl) (P.bin .t1 .t0 (BinV.xorW4 (x := (a0.a0 &&& a0.a1) ^^^ (a0.a0 &&& a0.a2)) (y := a0.a1 &&& a0.a2))) rfl rfl ?_
  obtain ⟨r5, hr6, h⟩ := bnd_eq h
  refine .dgo rfl (.n rfl) (G.call call118 (.cons .t1 (.cons .k (.cons .k (.cons .k (.cons .k .nil))))) (S_hash_three a0.a0 2 13 22 false r5 hr6) .nil .nil (fun _ _ => rfl) (fun _ _ => rfl) rfl) (.inr fun _ _ _ h => h) fun _ _ => ?_
  refine .dpu rfl (.n rfl) (P.bin .t0 .t0 (BinV.addW4 (x := r5) (y := ((a0.a0 &&& a0.a1) ^^^ (a0.a0 &&& a0.a2)) ^^^ (a0.a1 &&& a0.a2)))) rfl rfl ?_
  refine .dgo rfl (.n rfl) (OpV.g (OpP.toV (P.asg .t0)) rfl) (.inr fun _ _ _ h => h) fun _ _ => ?_
  refine .dnil ?_
  refine .then ?_
  refine .seq ?_
  refine .reg rfl ?_
  refine .opp (P.mov .g1) rfl ?_
  refine .opp (P.mov .t1) rfl ?_
  refine .opp (P.bin .t1 .t0 (BinV.addW4 (x := ((a0.a7 + r3) + ((a0.a4 &&& a0.a5) ^^^ ((4294967295 ^^^ a0.a4) &&& a0.a6))) + a1) (y := r5 + (((a0.a0 &&& a0.a1) ^^^ (a0.a0 &&& a0.a2)) ^^^ (a0.a1 &&& a0.a2))))) rfl ?_
  refine .opp (P.iac (i := 0) .k rfl .g3 runUnderlying157 sizeOf155 rfl rfl) rfl ?_
  refine .op (V.ld (v := W4 a0.a0) .t0 .k1 (.one isAgg155 rfl)) rfl ?_
  refine .opp (P.iac (i := 1) .k rfl .g4 runUnderlying157 sizeOf155 rfl rfl) rfl ?_
  refine .op (V.ld (v := W4 a0.a1) .t0 .k1 (.one isAgg155 rfl)) rfl ?_
  refine .opp (P.iac (i := 2) .k rfl .g5 runUnderlying157 sizeOf155 rfl rfl) rfl ?_
  refine .op (V.ld (v := W4 a0.a2) .t0 .k1 (.one isAgg155 rfl)) rfl ?_
  refine .opp (P.iac (i := 3) .k rfl .g6 runUnderlying157 sizeOf155 rfl rfl) rfl ?_
  refine .op (V.ld (v := W4 a0.a3) .t0 .k1 (.one isAgg155 rfl)) rfl ?_
  refine .opp (P.mov .t5) rfl ?_
  refine .opp (P.bin .t1 .t0 (BinV.addW4 (x := a0.a3) (y := ((a0.a7 + r3) + ((a0.a4 &&& a0.a5) ^^^ ((4294967295 ^^^ a0.a4) &&& a0.a6))) + a1))) rfl ?_
  refine .opp (P.iac (i := 4) .k rfl .g6 runUnderlying157 sizeOf155 rfl rfl) rfl ?_
  refine .op (V.ld (v := W4 a0.a4) .t0 .k1 (.one isAgg155 rfl)) rfl ?_
  refine .opp (P.iac (i := 5) .k rfl .g7 runUnderlying157 sizeOf155 rfl rfl) rfl ?_
  refine .op (V.ld (v := W4 a0.a5) .t0 .k1 (.one isAgg155 rfl)) rfl ?_
  refine .opp (P.iac (i := 6) .k rfl .t8 runUnderlying157 sizeOf155 rfl rfl) rfl ?_
  refine .op (V.ld (v := W4 a0.a6) .t0 .k1 (.one isAgg155 rfl)) rfl ?_
  refine .opp (P.bld (v := Ag (hash_eight.cs ⟨(((a0.a7 + r3) + ((a0.a4 &&& a0.a5) ^^^ ((4294967295 ^^^ a0.a4) &&& a0.a6))) + a1) + (r5 + (((a0.a0 &&& a0.a1) ^^^ (a0.a0 &&& a0.a2)) ^^^ (a0.a1 &&& a0.a2))), a0.a0, a0.a1, a0.a2, a0.a3 + (((a0.a7 + r3) + ((a0.a4 &&& a0.a5) ^^^ ((4294967295 ^^^ a0.a4) &&& a0.a6))) + a1), a0.a4, a0.a5, a0.a6⟩)) (.cons .t7 (.cons .t6 (.cons .t5 (.cons .t4 (.cons .t3 (.cons .t2 (.cons .t1 (.cons .t0 .nil)))))))) (bld_runA zeroValue157 runUnderlying157 sizeOf155 (by kernel_rfl))) rfl ?_
  refine .opg (G.str .t0 .g0 .k0 (.mk (cs' := (hash_eight.cs ⟨(((a0.a7 + r3) + ((a0.a4 &&& a0.a5) ^^^ ((4294967295 ^^^ a0.a4) &&& a0.a6))) + a1) + (r5 + (((a0.a0 &&& a0.a1) ^^^ (a0.a0 &&& a0.a2)) ^^^ (a0.a1 &&& a0.a2))), a0.a0, a0.a1, a0.a2, a0.a3 + (((a0.a7 + r3) + ((a0.a4 &&& a0.a5) ^^^ ((4294967295 ^^^ a0.a4) &&& a0.a6))) + a1), a0.a4, a0.a5, a0.a6⟩)) sizeOf157 rfl rfl rfl rfl)) rfl fun _ _ => ?_
  refine .nil ?_
  refine .then ?_
  refine .ret ?_
  cases h
  exact .finw () (.r1 rfl (.cell .g0 .k0 (.agg isAgg157 sizeOf157 rfl rfl))) trivial (Ls.of .nil) .nil
attribute [irreducible] hash_eight_round
noncomputable def hash_Sum (a0 : List UInt8) : Option ((List UInt8)) :=
  Option.bind (hash_Pad a0) fun r3 => Option.bind (slices_Chunk_byte 64) fun r7 => Option.bind (loopW (fun (s17 : Int × hash_eight) => if (decide (s17.1 < (r3.length : Int))) = true then (grd (okS r3.length (some s17.1) none none) <| grd (okS r3.length (some s17.1) (some (IntKind.i64.wrap (s17.1 + (if ((slc r3 (s17.1).toNat r3.length).length : Int) < 64 then ((slc r3 (s17.1).toNat r3.length).length : Int) else 64)))) (some (IntKind.i64.wrap (s17.1 + (if ((slc r3 (s17.1).toNat r3.length).length : Int) < 64 then ((slc r3 (s17.1).toNat r3.length).length : Int) else 64))))) <| Option.bind (hash_schedule (slc r3 (s17.1).toNat (IntKind.i64.wrap (s17.1 + (if ((slc r3 (s17.1).toNat r3.length).length : Int) < 64 then ((slc r3 (s17.1).toNat r3.length).length : Int) else 64))).toNat)) fun r39 => Option.bind (loopW (fun (s43 : Int × hash_eight) => if (decide (s43.1 < 64)) = true then (Option.bind (at_ (A64_u32.list r39) s43.1) fun (x53 : UInt32) => Option.bind (at_ (A64_u32.list hash_keys) s43.1) fun (x57 : UInt32) => Option.bind (hash_eight_round s43.2 (x57 + x53)) fun r61 => some (.nx ((IntKind.i64.wrap (s43.1 + 1), r61)))) else (some (.br (s43.1, s43.2)))) (0, s17.2)) fun o45 => Lo.on o45 fun (s43 : Int × hash_eight) => some (.nx ((IntKind.i64.wrap (s17.1 + 64), ⟨s17.2.a0 + s43.2.a0, s17.2.a1 + s43.2.a1, s17.2.a2 + s43.2.a2, s17.2.a3 + s43.2.a3, s17.2.a4 + s43.2.a4, s17.2.a5 + s43.2.a5, s17.2.a6 + s43.2.a6, s17.2.a7 + s43.2.a7⟩)))) else (some (.br (s17.1, s17.2)))) (0, hash_begin)) fun o19 => Lo.on o19 fun (s17 : Int × hash_eight) => Option.bind (blob_Num (s17.2.a0.toNat : Int) 4) fun r67 => grd ((([] : List UInt8).length + r67.length) * 1 ≤ 140737488355328) <| Option.bind (blob_Num (s17.2.a1.toNat : Int) 4) fun r72 => grd (((([] : List UInt8) ++ r67).length + r72.length) * 1 ≤ 140737488355328) <| Option.bind (blob_Num (s17.2.a2.toNat : Int) 4) fun r77 => grd ((((([] : List UInt8) ++ r67) ++ r72).length + r77.length) * 1 ≤ 140737488355328) <| Option.bind (blob_Num (s17.2.a3.toNat : Int) 4) fun r82 => grd (((((([] : List UInt8) ++ r67) ++ r72) ++ r77).length + r82.length) * 1 ≤ 140737488355328) <| Option.bind (blob_Num (s17.2.a4.toNat : Int) 4) fun r87 => grd ((((((([] : List UInt8) ++ r67) ++ r72) ++ r77) ++ r82).length + r87.length) * 1 ≤ 140737488355328) <| Option.bind (blob_Num (s17.2.a5.toNat : Int) 4) fun r92 => grd (((((((([] : List UInt8) ++ r67) ++ r72) ++ r77) ++ r82) ++ r87).length + r92.length) * 1 ≤ 140737488355328) <| Option.bind (blob_Num (s17.2.a6.toNat : Int) 4) fun r97 => grd ((((((((([] : List UInt8) ++ r67) ++ r72) ++ r77) ++ r82) ++ r87) ++ r92).length + r97.length) * 1 ≤ 140737488355328) <| Option.bind (blob_Num (s17.2.a7.toNat : Int) 4) fun r102 => grd (((((((((([] : List UInt8) ++ r67) ++ r72) ++ r77) ++ r82) ++ r87) ++ r92) ++ r97).length + r102.length) * 1 ≤ 140737488355328) <| some (((((((((([] : List UInt8) ++ r67) ++ r72) ++ r77) ++ r82) ++ r87) ++ r92) ++ r97) ++ r102))
set_option maxRecDepth 20000 in
set_option maxHeartbeats 1000000 in
theorem S_hash_Sum (v00 : Value) (a0 : List UInt8) (r : (List UInt8)) (h : hash_Sum a0 = some r) :
    SpecF Tryz.prog 92 [v00] [] [rows 1 v00 (a0.map (fun x => [B8 x]))] (fun z : Value => True) (fun z => z) (fun z M => lst 5 1 z (r.map (fun x => [B8 x])) ::  M) (fun z M =>  M) := by
  refine .of func92 rfl ntmps92 rfl fun w0 D0 G0 => ?_
  unfold hash_Sum at h
  refine .seq ?_
  refine .reg rfl ?_
  refine .op0 (OpP.toV (P.asg .k)) rfl ?_
  refine .nil ?_
  refine .then ?_
  refine .seq ?_
  refine .reg rfl ?_
  refine .opg (G.call call101 .nil (S_hash_begin  _ rfl) .nil .nil (fun _ _ => rfl) (fun _ _ => rfl) rfl) rfl fun _ _ => ?_
  refine .opg (G.call call102 .nil (S_hash_keys  _ rfl) .nil .nil (fun _ _ => rfl) (fun _ _ => rfl) rfl) rfl fun _ _ => ?_
  refine .opx (X.alc (cs := (hash_eight.cs ⟨0, 0, 0, 0, 0, 0, 0, 0⟩)) zeroValue157 rfl) rfl fun b1 => ?_
  refine .opx (X.alc (cs := (A64_u32.cs ⟨0, 0, 0, 0, 0, 0, 0, 0, 0, 0, 0, 0, 0, 0, 0, 0, 0, 0, 0, 0, 0, 0, 0, 0, 0, 0, 0, 0, 0, 0, 0, 0, 0, 0, 0, 0, 0, 0, 0, 0, 0, 0, 0, 0, 0, 0, 0, 0, 0, 0, 0, 0, 0, 0, 0, 0, 0, 0, 0, 0, 0, 0, 0, 0⟩)) zeroValue159 rfl) rfl fun b2 => ?_
  refine .opg (G.str .t3 .g1 .k1 (.mk (cs' := (hash_eight.cs hash_begin)) sizeOf157 rfl rfl rfl rfl)) rfl fun _ _ => ?_
  refine .opg (G.str .t2 .g0 .k1 (.mk (cs' := (A64_u32.cs hash_keys)) sizeOf159 rfl rfl rfl rfl)) rfl fun _ _ => ?_
  refine .nil ?_
  refine .then ?_
  refine .seq ?_
  refine .seq ?_
  refine .reg rfl ?_
  refine .opp (P.mov .t2) rfl ?_
  obtain ⟨r3, hr4, h⟩ := bnd_eq h
  refine .opg (G.call call104 (.cons .t0 .nil) (S_hash_Pad v00 a0 r3 hr4) .nil (.cons Mm.m0 .nil) (fun _ _ => rfl) (fun _ _ => rfl) rfl) rfl fun u5 _ => ?_
  refine .cell .k0 fun hv6 => ?_
  obtain ⟨r7, hr8, h⟩ := bnd_eq h
  refine .opg (G.call call103 (.cons .t0 (.cons .k .nil)) (S_slices_Chunk_byte u5 hv6 64 r7 hr8) .nil .nil (fun _ _ => rfl) (fun _ _ => rfl) rfl) rfl fun ⟨b9, b10⟩ _ => ?_
  refine .nil ?_
  refine .then ?_
  refine .block ?_
  refine .rangeF rfl .t0 call116 func116 rfl ntmps116 rfl fun a11 O12 D13 l14 ha15 hO16 => ?_
  refine .seq ?_
  refine .reg rfl ?_
  refine .opp (P.asg .k) rfl ?_
  refine .nil ?_
  refine .then ?_
  refine .block ?_
  refine .frz .k4 ?_
  obtain ⟨o19, ho20, h⟩ := bnd_eq h
  refine .loopW (γ := Unit) (fun (s17 : Int × hash_eight) z18 => [(4, N s17.1), (0, yv l14), (1, pt b9 0), (2, pt b10 0)]) (fun (s17 : Int × hash_eight) z18 => [blk b9 131 [u5], blk b10 3 [N 64], blk b2 159 (A64_u32.cs hash_keys), blk b1 157 (hash_eight.cs s17.2), obj l14 (O12 .ready none), obj D13 (.deferred (some []))]) (fun (s17 : Int × hash_eight) z18 => [rows 1 u5 (r3.map (fun x => [B8 x])), rows 1 v00 (a0.map (fun x => [B8 x]))]) () ho20 (.cons Mm.m0 (.cons Mm.m1 (.cons Mm.m2 (.cons Mm.m3 .nil)))) (.of (.cons .k2 (.cons .k2 (.cons .k2 (.cons .k2 (.cons .k0 (.cons .k0 .nil))))))) (.cons Mm.m0 (.cons Mm.m1 .nil)) (fun n25 s17 z18 hr23 => ?_)
  obtain ⟨ct24, hc21, hn22⟩ := loopK_at hr23
  refine .seq ?_
  refine .seq ?_
  refine .reg rfl ?_
  refine .opp (P.mov .g0) rfl ?_
  refine .op (V.ld (v := u5) .g3 .k0 (.one isAgg131 rfl)) rfl ?_
  refine .op (V.lnr (n := r3.length) .t0 Mm.m0 map_len runUnderlying131) rfl ?_
  refine .opp (P.bin .t1 .t0 .lss) rfl ?_
  refine .nil ?_
  refine .then ?_
  refine .cond .t0 (fun c26 => ?_) (fun c26 => ?_)
  · rw [if_pos c26] at hc21
    refine .skip ?_
    refine .then ?_
    refine .seq ?_
    refine .block ?_
    refine .seq ?_
    refine .draw 7 (.on 2 .pu (.on 0 .ld (.on 1 .ld (.on 3 .pu (.on 4 .ld (.on 5 .pu (.on 6 .go .nl))))))) follows_mixed (.thn (.inb (.thn (.thn (.inb .body))))) (by kernel_rfl) ?_
    refine .dpu rfl (.n rfl) (P.mov .g0) rfl rfl ?_
    refine .dld rfl (.n rfl) (V.ld (v := N 64) .g4 .k1 (.one isAgg3 rfl)) (fun _ h => h) rfl rfl ?_
    refine .dld rfl (.n rfl) (V.ld (v := u5) .g4 .k0 (.one isAgg131 rfl)) (fun _ h => h) rfl rfl ?_
    obtain ⟨hb27, hc21⟩ := grd_eq hc21
    refine .slnq Mm.m0 fun hq31 => ?_
    simp only [List.length_map] at hq31
    refine .dpu rfl (.n rfl) (P.slp (li := (some s17.1)) (hj := none) (mk := none) .t0 (.some .t1) .none .none hq31 runUnderlying131 sizeOf5 (by simpa using hb27)) rfl rfl ?_
    refine .slgen Mm.m0 (by simpa using hb27) fun u28 => ?_
    refine .rhead (q := rows 1 u28 ((slc r3 (s17.1).toNat r3.length).map (fun x => [B8 x]))) (fun _ hh => by simpa [slc_map] using hh) ?_
    refine .rfact Mm.m0 (fun _ r => rows_shape r) fun hs32 => ?_
    rw [List.length_map] at hs32
    refine .dld rfl (.n rfl) (OpP.toV (P.lnh (n := (slc r3 (s17.1).toNat r3.length).length) .t0 hs32 runUnderlying131)) (fun _ h => (h.imp (Ls.of (.cons .k0 (.cons .k0 (.cons .k0 (.cons .k0 (.cons .k0 (.cons .k0 .nil)))))))).ro (Rs.cons Mm.m1 (Rs.cons Mm.m2 Rs.nil))) rfl rfl ?_
    refine .dpu rfl (.n rfl) (P.min2 .t1 .t0) rfl rfl ?_
    refine .dgo rfl (.n rfl) (OpV.g (OpP.toV (P.asg .t0)) rfl) (.inr fun _ _ _ h => (h.imp (Ls.of (.cons .k0 (.cons .k0 (.cons .k0 (.cons .k0 (.cons .k0 (.cons .k0 .nil)))))))).ro (Rs.cons Mm.m1 (Rs.cons Mm.m2 Rs.nil))) fun _ _ => ?_
    refine .dnil ?_
    refine .then ?_
    refine .seq ?_
    refine .regY 10 rfl ?_
    refine .opp (P.mov .g2) rfl ?_
    refine .op (V.ld (v := u5) .g4 .k0 (.one isAgg131 rfl)) rfl ?_
    refine .opp (P.mov .g3) rfl ?_
    refine .opp (P.mov .g4) rfl ?_
    refine .opp (P.mov .g4) rfl ?_
    refine .opp (P.bin .t1 .t0 .add) rfl ?_
    refine .opp (P.mov .g5) rfl ?_
    refine .opp (P.mov .t5) rfl ?_
    refine .opp (P.bin .t1 .t0 .add) rfl ?_
    obtain ⟨hb33, hc21⟩ := grd_eq hc21
    refine .capq Mm.m1 fun hc35 => ?_
    refine .opg (G.slr (li := (some s17.1)) (hj := (some (IntKind.i64.wrap (s17.1 + (if ((slc r3 (s17.1).toNat r3.length).length : Int) < 64 then ((slc r3 (s17.1).toNat r3.length).length : Int) else 64))))) (mk := (some (IntKind.i64.wrap (s17.1 + (if ((slc r3 (s17.1).toNat r3.length).length : Int) < 64 then ((slc r3 (s17.1).toNat r3.length).length : Int) else 64))))) .t3 (.some .t2) (.some .t1) (.some .t0) Mm.m1 hc35 runUnderlying131 sizeOf5 (by simpa using hb33) rfl) rfl fun u34 hu36 => ?_
    refine .rhead (q := rows 1 u34 ((slc r3 (s17.1).toNat (IntKind.i64.wrap (s17.1 + (if ((slc r3 (s17.1).toNat r3.length).length : Int) < 64 then ((slc r3 (s17.1).toNat r3.length).length : Int) else 64))).toNat).map (fun x => [B8 x]))) (fun _ hh => by simpa [slc_map] using hh) ?_
    refine .nil ?_
    refine .then ?_
    refine .yield (ps := [19]) .t1 (.cons .t0 .nil) hO16 .k4 rfl rfl (by decide) fun a37 ha38 => ?_
    refine .reg rfl ?_
    refine .opp (P.asg .t0) rfl ?_
    refine .nil ?_
    refine .then ?_
    refine .bg rfl hO16 .k0 ?_
    refine .block ?_
    refine .seq ?_
    refine .reg rfl ?_
    refine .opp (P.mov .t0) rfl ?_
    obtain ⟨r39, hr40, hc21⟩ := bnd_eq hc21
    refine .opg (G.call call105 (.cons .t0 .nil) (S_hash_schedule u34 (slc r3 (s17.1).toNat (IntKind.i64.wrap (s17.1 + (if ((slc r3 (s17.1).toNat r3.length).length : Int) < 64 then ((slc r3 (s17.1).toNat r3.length).length : Int) else 64))).toNat) r39 hr40) .nil (.cons Mm.m0 .nil) (fun _ _ => rfl) (fun _ _ => rfl) rfl) rfl fun _ _ => ?_
    refine .opx (X.alc (cs := (A64_u32.cs ⟨0, 0, 0, 0, 0, 0, 0, 0, 0, 0, 0, 0, 0, 0, 0, 0, 0, 0, 0, 0, 0, 0, 0, 0, 0, 0, 0, 0, 0, 0, 0, 0, 0, 0, 0, 0, 0, 0, 0, 0, 0, 0, 0, 0, 0, 0, 0, 0, 0, 0, 0, 0, 0, 0, 0, 0, 0, 0, 0, 0, 0, 0, 0, 0⟩)) zeroValue159 rfl) rfl fun b41 => ?_
    refine .opg (G.str .t1 .g0 .k0 (.mk (cs' := (A64_u32.cs r39)) sizeOf159 rfl rfl rfl rfl)) rfl fun _ _ => ?_
    refine .nil ?_
    refine .then ?_
    refine .seq ?_
    refine .reg rfl ?_
    refine .op (V.ld (v := Ag (hash_eight.cs s17.2)) .g2 .k5 (.agg isAgg157 sizeOf157 rfl rfl)) rfl ?_
    refine .opx (X.alc (cs := (hash_eight.cs ⟨0, 0, 0, 0, 0, 0, 0, 0⟩)) zeroValue157 rfl) rfl fun b42 => ?_
    refine .opg (G.str .t1 .g0 .k0 (.mk (cs' := (hash_eight.cs s17.2)) sizeOf157 rfl rfl rfl rfl)) rfl fun _ _ => ?_
    refine .nil ?_
    refine .then ?_
    refine .seq ?_
    refine .seq ?_
    refine .reg rfl ?_
    refine .op (V.ld (v := Ag (A64_u32.cs r39)) .t1 .k1 (.agg isAgg159 sizeOf159 rfl rfl)) rfl ?_
    refine .opp (P.mov .k) rfl ?_
    refine .nil ?_
    refine .then ?_
    refine .block ?_
    obtain ⟨o45, ho46, hc21⟩ := bnd_eq hc21
    refine .loopW (γ := Unit) (fun (s43 : Int × hash_eight) z44 => [(24, N s43.1), (23, Ag (A64_u32.cs r39)), (7, pt b42 0), (4, pt b2 0), (3, pt b1 0)]) (fun (s43 : Int × hash_eight) z44 => [blk b42 157 (hash_eight.cs s43.2), blk b2 159 (A64_u32.cs hash_keys), blk b1 157 (hash_eight.cs s17.2), blk b9 131 [u5], blk b10 3 [N 64], obj l14 (O12 .busy none), obj D13 (.deferred (some []))]) (fun (s43 : Int × hash_eight) z44 => [rows 1 u5 (r3.map (fun x => [B8 x])), rows 1 v00 (a0.map (fun x => [B8 x]))]) () ho46 (.cons Mm.m0 (.cons Mm.m1 (.cons Mm.m2 (.cons Mm.m3 (.cons Mm.m4 .nil))))) (.of (.cons .k0 (.cons .k4 (.cons .k4 (.cons .k2 (.cons .k2 (.cons .k1 (.cons .k1 .nil)))))))) (.cons Mm.m2 (.cons Mm.m3 .nil)) (fun n51 s43 z44 hr49 => ?_)
    obtain ⟨ct50, hc47, hn48⟩ := loopK_at hr49
    refine .seq ?_
    refine .reg rfl ?_
    refine .opp (P.bin .g0 .k .lss) rfl ?_
    refine .nil ?_
    refine .then ?_
    refine .seq ?_
    refine .cond .t0 (fun c52 => ?_) (fun c52 => ?_)
    · rw [if_pos c52] at hc47
      refine .skip ?_
      refine .then ?_
      refine .seq ?_
      refine .block ?_
      refine .seq ?_
      refine .reg rfl ?_
      refine .opp (P.mov .g0) rfl ?_
      obtain ⟨x53, hx54, hc47⟩ := bnd_eq hc47
      obtain ⟨i55, hi56, hx54⟩ := at_eq hx54
      refine .opp (P.idx (i := i55) (v := W4 x53) .g2 .g1 hi56 runUnderlying159 sizeOf155 (lt_of_get hx54) (by rcases i55 with _ | _ | _ | _ | _ | _ | _ | _ | _ | _ | _ | _ | _ | _ | _ | _ | _ | _ | _ | _ | _ | _ | _ | _ | _ | _ | _ | _ | _ | _ | _ | _ | _ | _ | _ | _ | _ | _ | _ | _ | _ | _ | _ | _ | _ | _ | _ | _ | _ | _ | _ | _ | _ | _ | _ | _ | _ | _ | _ | _ | _ | _ | _ | _ | _ <;> first | (obtain rfl := Option.some.inj hx54; exact PartV.one isAgg155 rfl) | (cases hx54; done))) rfl ?_
      refine .opp (P.asg .t1) rfl ?_
      refine .opp (P.asg .t1) rfl ?_
      refine .nil ?_
      refine .then ?_
      refine .draw 6 (.on 1 .pu (.on 2 .pu (.on 4 .pu (.on 0 .ld (.on 3 .go (.on 5 .pu (.on 6 .go (.on 7 .go .nl)))))))) follows_mixed (.inb (.thn (.thn (.inb (.thn (.inb .rnd)))))) (by kernel_rfl) ?_
      refine .dpu rfl (.n rfl) (P.mov .t1) rfl rfl ?_
      obtain ⟨x57, hx58, hc47⟩ := bnd_eq hc47
      obtain ⟨i59, hi60, hx58⟩ := at_eq hx58
      have hi60_ : (s43.1).toNat = i59 := by rw [hi60]; rfl
      refine .dpu rfl (.n rfl) (P.iad (i := i59) (off' := (0 + i59 * 1)) .t0 hi60 .g4 runUnderlying159 sizeOf155 (lt_of_get hx58) rfl) rfl rfl ?_
      refine .dpu rfl (.n rfl) (P.mov .t1) rfl rfl ?_
      refine .dld rfl (.n rfl) (V.ld (v := Ag (hash_eight.cs s43.2)) .g4 .k0 (.agg isAgg157 sizeOf157 rfl rfl)) (fun _ h => h) rfl rfl ?_
      refine .dgo rfl (.n rfl) (OpV.g (V.ld (v := W4 x57) .t2 .k1 (by rcases i59 with _ | _ | _ | _ | _ | _ | _ | _ | _ | _ | _ | _ | _ | _ | _ | _ | _ | _ | _ | _ | _ | _ | _ | _ | _ | _ | _ | _ | _ | _ | _ | _ | _ | _ | _ | _ | _ | _ | _ | _ | _ | _ | _ | _ | _ | _ | _ | _ | _ | _ | _ | _ | _ | _ | _ | _ | _ | _ | _ | _ | _ | _ | _ | _ | _ <;> first | (obtain rfl := Option.some.inj hx58; exact LdV.one isAgg155 rfl) | (cases hx58; done))) rfl) (.inr fun _ _ _ h => h) fun _ _ => ?_
      refine .dpu rfl (.n rfl) (P.bin .t0 .t1 (BinV.addW4 (x := x57) (y := x53))) rfl rfl ?_
      obtain ⟨r61, hr62, hc47⟩ := bnd_eq hc47
      refine .dgo rfl (.n rfl) (G.call call106 (.cons .t1 (.cons .t0 .nil)) (S_hash_eight_round s43.2 (x57 + x53) r61 hr62) .nil .nil (fun _ _ => rfl) (fun _ _ => rfl) rfl) (.inl rfl) fun _ _ => ?_
      refine .dgo rfl (.n rfl) (G.str .t0 .g2 .k0 (.mk (cs' := (hash_eight.cs r61)) sizeOf157 rfl rfl rfl rfl)) (.inl rfl) fun _ _ => ?_
      refine .dnil ?_
      refine .inn ?_
      refine .then ?_
      refine .reg rfl ?_
      refine .opp (P.bin .g0 .k .add) rfl ?_
      refine .drop .k1 ?_
      refine .opp (P.mov .t0) rfl ?_
      refine .nil ?_
      cases hc47
      obtain ⟨m63, hm64, hn48⟩ := hn48
      exact .rdW ((IntKind.i64.wrap (s43.1 + 1), r61)) () hm64 hn48 (.cons Mm.m0 (.cons Mm.m1 (.cons Mm.m2 (.cons Mm.m3 (.cons Mm.m4 .nil))))) (.of (.cons .k0 (.cons .k0 (.cons .k0 (.cons .k0 (.cons .k0 (.cons .k0 (.cons .k0 .nil)))))))) (.cons Mm.m0 (.cons Mm.m1 .nil))
    · rw [if_neg (ne_true_of_eq_false c52)] at hc47
      refine .exit ?_
      refine .thx ?_
      cases hc47
      refine .told (γ := Unit) hc21 hn48 (fun (s43 : Int × hash_eight) _ => [(24, N s43.1), (23, Ag (A64_u32.cs r39)), (7, pt b42 0), (4, pt b2 0), (3, pt b1 0)]) (fun (s43 : Int × hash_eight) _ => [blk b42 157 (hash_eight.cs s43.2), blk b2 159 (A64_u32.cs hash_keys), blk b1 157 (hash_eight.cs s17.2), blk b9 131 [u5], blk b10 3 [N 64], obj l14 (O12 .busy none), obj D13 (.deferred (some []))]) (fun (s43 : Int × hash_eight) _ => [rows 1 u5 (r3.map (fun x => [B8 x])), rows 1 v00 (a0.map (fun x => [B8 x]))]) () (.cons Mm.m0 (.cons Mm.m1 (.cons Mm.m2 (.cons Mm.m3 (.cons Mm.m4 .nil))))) (.of (.cons .k0 (.cons .k0 (.cons .k0 (.cons .k0 (.cons .k0 (.cons .k0 (.cons .k0 .nil)))))))) (.cons Mm.m0 (.cons Mm.m1 .nil)) (fun s43 _ hc21' => ?_)
      replace hc21 := hc21'
      refine .thx ?_
      refine .inb ?_
      refine .then ?_
      refine .seq ?_
      refine .reg rfl ?_
      refine .opp (P.mov .k) rfl ?_
      refine .nil ?_
      refine .then ?_
      refine .block ?_
      refine .rounds 9 ?_
      refine .rd ?_
      refine .seq ?_
      refine .reg rfl ?_
      refine .opp (P.bin (v := Bo true) .g0 .k (BinV.lss.boolc (by decide))) rfl ?_
      refine .nil ?_
      refine .then ?_
      refine .seq ?_
      refine .condT .t0 ?_
      refine .skip ?_
      refine .then ?_
      refine .seq ?_
      refine .block ?_
      refine .seq ?_
      refine .reg rfl ?_
      refine .opp (P.mov .g0) rfl ?_
      refine .opp (P.asg .t0) rfl ?_
      refine .nil ?_
      refine .then ?_
      refine .draw 8 (.on 0 .pu (.on 1 .pu (.on 3 .pu (.on 4 .pu (.on 2 .ld (.on 5 .ld (.on 6 .pu (.on 7 .pu (.on 8 .go .nl))))))))) follows_mixed (.inb (.thn (.thn (.inb (.inb .rnd))))) (by kernel_rfl) ?_
      refine .dpu rfl (.n rfl) (P.mov .g0) rfl rfl ?_
      refine .dpu rfl (.n rfl) (P.iac (i := 0) .g0 rfl .g7 runUnderlying157 sizeOf155 rfl rfl) rfl rfl ?_
      refine .dpu rfl (.n rfl) (P.mov .t2) rfl rfl ?_
      refine .dpu rfl (.n rfl) (P.iac (i := 0) .t0 rfl .g5 runUnderlying157 sizeOf155 rfl rfl) rfl rfl ?_
      refine .dld rfl (.n rfl) (V.ld (v := W4 s17.2.a0) .t1 .k2 (.one isAgg155 rfl)) (fun _ h => h) rfl rfl ?_
      refine .dld rfl (.n rfl) (V.ld (v := W4 s43.2.a0) .t1 .k0 (.one isAgg155 rfl)) (fun _ h => h) rfl rfl ?_
      refine .dpu rfl (.n rfl) (P.bin .t1 .t0 (BinV.addW4 (x := s17.2.a0) (y := s43.2.a0))) rfl rfl ?_
      refine .dpu rfl (.n rfl) (P.iac (i := 0) .t1 rfl .g6 runUnderlying157 sizeOf155 rfl rfl) rfl rfl ?_
      refine .dgo rfl (.n rfl) (G.str .t1 .t0 .k2 (.mk (cs' := (hash_eight.cs ⟨s17.2.a0 + s43.2.a0, s17.2.a1, s17.2.a2, s17.2.a3, s17.2.a4, s17.2.a5, s17.2.a6, s17.2.a7⟩)) sizeOf155 rfl rfl rfl rfl)) (.inl rfl) fun _ _ => ?_
      refine .dnil ?_
      refine .inn ?_
      refine .then ?_
      refine .reg rfl ?_
      refine .opp (P.bin (v := N 1) .g0 .k (.addc (by decide))) rfl ?_
      refine .drop .k1 ?_
      refine .opp (P.mov .t0) rfl ?_
      refine .nil ?_
      refine .then ?_
      refine .rd ?_
      refine .seq ?_
      refine .reg rfl ?_
      refine .opp (P.bin (v := Bo true) .g0 .k (BinV.lss.boolc (by decide))) rfl ?_
      refine .nil ?_
      refine .then ?_
      refine .seq ?_
      refine .condT .t0 ?_
      refine .skip ?_
      refine .then ?_
      refine .seq ?_
      refine .block ?_
      refine .seq ?_
      refine .reg rfl ?_
      refine .opp (P.mov .g0) rfl ?_
      refine .opp (P.asg .t0) rfl ?_
      refine .nil ?_
      refine .then ?_
      refine .draw 8 (.on 0 .pu (.on 1 .pu (.on 3 .pu (.on 4 .pu (.on 2 .ld (.on 5 .ld (.on 6 .pu (.on 7 .pu (.on 8 .go .nl))))))))) follows_mixed (.inb (.thn (.thn (.inb (.inb .rnd))))) (by kernel_rfl) ?_
      refine .dpu rfl (.n rfl) (P.mov .g0) rfl rfl ?_
      refine .dpu rfl (.n rfl) (P.iac (i := 1) .g0 rfl .g7 runUnderlying157 sizeOf155 rfl rfl) rfl rfl ?_
      refine .dpu rfl (.n rfl) (P.mov .t2) rfl rfl ?_
      refine .dpu rfl (.n rfl) (P.iac (i := 1) .t0 rfl .g5 runUnderlying157 sizeOf155 rfl rfl) rfl rfl ?_
      refine .dld rfl (.n rfl) (V.ld (v := W4 s17.2.a1) .t1 .k0 (.one isAgg155 rfl)) (fun _ h => h) rfl rfl ?_
      refine .dld rfl (.n rfl) (V.ld (v := W4 s43.2.a1) .t1 .k1 (.one isAgg155 rfl)) (fun _ h => h) rfl rfl ?_
      refine .dpu rfl (.n rfl) (P.bin .t1 .t0 (BinV.addW4 (x := s17.2.a1) (y := s43.2.a1))) rfl rfl ?_
      refine .dpu rfl (.n rfl) (P.iac (i := 1) .t1 rfl .g6 runUnderlying157 sizeOf155 rfl rfl) rfl rfl ?_
      refine .dgo rfl (.n rfl) (G.str .t1 .t0 .k0 (.mk (cs' := (hash_eight.cs ⟨s17.2.a0 + s43.2.a0, s17.2.a1 + s43.2.a1, s17.2.a2, s17.2.a3, s17.2.a4, s17.2.a5, s17.2.a6, s17.2.a7⟩)) sizeOf155 rfl rfl rfl rfl)) (.inl rfl) fun _ _ => ?_
      refine .dnil ?_
      refine .inn ?_
      refine .then ?_
      refine .reg rfl ?_
      refine .opp (P.bin (v := N 2) .g0 .k (.addc (by decide))) rfl ?_
      refine .drop .k1 ?_
      refine .opp (P.mov .t0) rfl ?_
      refine .nil ?_
      refine .then ?_
      refine .rd ?_
      refine .seq ?_
      refine .reg rfl ?_
      refine .opp (P.bin (v := Bo true) .g0 .k (BinV.lss.boolc (by decide))) rfl ?_
      refine .nil ?_
      refine .then ?_
      refine .seq ?_
      refine .condT .t0 ?_
      refine .skip ?_
      refine .then ?_
      refine .seq ?_
      refine .block ?_
      refine .seq ?_
      refine .reg rfl ?_
      refine .opp (P.mov .g0) rfl ?_
      refine .opp (P.asg .t0) rfl ?_
      refine .nil ?_
      refine .then ?_
      refine .draw 8 (.on 0 .pu (.on 1 .pu (.on 3 .pu (.on 4 .pu (.on 2 .ld (.on 5 .ld (.on 6 .pu (.on 7 .pu (.on 8 .go .nl))))))))) follows_mixed (.inb (.thn (.thn (.inb (.inb .rnd))))) (by kernel_rfl) ?_
      refine .dpu rfl (.n rfl) (P.mov .g0) rfl rfl ?_
      refine .dpu rfl (.n rfl) (P.iac (i := 2) .g0 rfl .g7 runUnderlying157 sizeOf155 rfl rfl) rfl rfl ?_
      refine .dpu rfl (.n rfl) (P.mov .t2) rfl rfl ?_
      refine .dpu rfl (.n rfl) (P.iac (i := 2) .t0 rfl .g5 runUnderlying157 sizeOf155 rfl rfl) rfl rfl ?_
      refine .dld rfl (.n rfl) (V.ld (v := W4 s17.2.a2) .t1 .k0 (.one isAgg155 rfl)) (fun _ h => h) rfl rfl ?_
      refine .dld rfl (.n rfl) (V.ld (v := W4 s43.2.a2) .t1 .k1 (.one isAgg155 rfl)) (fun _ h => h) rfl rfl ?_
      refine .dpu rfl (.n rfl) (P.bin .t1 .t0 (BinV.addW4 (x := s17.2.a2) (y := s43.2.a2))) rfl rfl ?_
      refine .dpu rfl (.n rfl) (P.iac (i := 2) .t1 rfl .g6 runUnderlying157 sizeOf155 rfl rfl) rfl rfl ?_
      refine .dgo rfl (.n rfl) (G.str .t1 .t0 .k0 (.mk (cs' := (hash_eight.cs ⟨s17.2.a0 + s43.2.a0, s17.2.a1 + s43.2.a1, s17.2.a2 + s43.2.a2, s17.2.a3, s17.2.a4, s17.2.a5, s17.2.a6, s17.2.a7⟩)) sizeOf155 rfl rfl rfl rfl)) (.inl rfl) fun _ _ => ?_
      refine .dnil ?_
      refine .inn ?_
      refine .then ?_
      refine .reg rfl ?_
      refine .opp (P.bin (v := N 3) .g0 .k (.addc (by decide))) rfl ?_
      refine .drop .k1 ?_
      refine .opp (P.mov .t0) rfl ?_
      refine .nil ?_
      refine .then ?_
      refine .rd ?_
      refine .seq ?_
      refine .reg rfl ?_
      refine .opp (P.bin (v := Bo true) .g0 .k (BinV.lss.boolc (by decide))) rfl ?_
      refine .nil ?_
      refine .then ?_
      refine .seq ?_
      refine .condT .t0 ?_
      refine .skip ?_
      refine .then ?_
      refine .seq ?_
      refine .block ?_
      refine .seq ?_
      refine .reg rfl ?_
      refine .opp (P.mov .g0) rfl ?_
      refine .opp (P.asg .t0) rfl ?_
      refine .nil ?_
      refine .then ?_
      refine .draw 8 (.on 0 .pu (.on 1 .pu (.on 3 .pu (.on 4 .pu (.on 2 .ld (.on 5 .ld (.on 6 .pu (.on 7 .pu (.on 8 .go .nl))))))))) follows_mixed (.inb (.thn (.thn (.inb (.inb .rnd))))) (by kernel_rfl) ?_
      refine .dpu rfl (.n rfl) (P.mov .g0) rfl rfl ?_
      refine .dpu rfl (.n rfl) (P.iac (i := 3) .g0 rfl .g7 runUnderlying157 sizeOf155 rfl rfl) rfl rfl ?_
      refine .dpu rfl (.n rfl) (P.mov .t2) rfl rfl ?_
      refine .dpu rfl (.n rfl) (P.iac (i := 3) .t0 rfl .g5 runUnderlying157 sizeOf155 rfl rfl) rfl rfl ?_
      refine .dld rfl (.n rfl) (V.ld (v := W4 s17.2.a3) .t1 .k0 (.one isAgg155 rfl)) (fun _ h => h) rfl rfl ?_
      refine .dld rfl (.n rfl) (V.ld (v := W4 s43.2.a3) .t1 .k1 (.one isAgg155 rfl)) (fun _ h => h) rfl rfl ?_
      refine .dpu rfl (.n rfl) (P.bin .t1 .t0 (BinV.addW4 (x := s17.2.a3) (y := s43.2.a3))) rfl rfl ?_
      refine .dpu rfl (.n rfl) (P.iac (i := 3) .t1 rfl .g6 runUnderlying157 sizeOf155 rfl rfl) rfl rfl ?_
      refine .dgo rfl (.n rfl) (G.str .t1 .t0 .k0 (.mk (cs' := (hash_eight.cs ⟨s17.2.a0 + s43.2.a0, s17.2.a1 + s43.2.a1, s17.2.a2 + s43.2.a2, s17.2.a3 + s43.2.a3, s17.2.a4, s17.2.a5, s17.2.a6, s17.2.a7⟩)) sizeOf155 rfl rfl rfl rfl)) (.inl rfl) fun _ _ => ?_
      refine .dnil ?_
      refine .inn ?_
      refine .then ?_
      refine .reg rfl ?_
      refine .opp (P.bin (v := N 4) .g0 .k (.addc (by decide))) rfl ?_
      refine .drop .k1 ?_
      refine .opp (P.mov .t0) rfl ?_
      refine .nil ?_
      refine .then ?_
      refine .rd ?_
      refine .seq ?_
      refine .reg rfl ?_
      refine .opp (P.bin (v := Bo true) .g0 .k (BinV.lss.boolc (by decide))) rfl ?_
      refine .nil ?_
      refine .then ?_
      refine .seq ?_
      refine .condT .t0 ?_
      refine .skip ?_
      refine .then ?_
      refine .seq ?_
      refine .block ?_
      refine .seq ?_
      refine .reg rfl ?_
      refine .opp (P.mov .g0) rfl ?_
      refine .opp (P.asg .t0) rfl ?_
      refine .nil ?_
      refine .then ?_
      refine .draw 8 (.on 0 .pu (.on 1 .pu (.on 3 .pu (.on 4 .pu (.on 2 .ld (.on 5 .ld (.on 6 .pu (.on 7 .pu (.on 8 .go .nl))))))))) follows_mixed (.inb (.thn (.thn (.inb (.inb .rnd))))) (by kernel_rfl) ?_
      refine .dpu rfl (.n rfl) (P.mov .g0) rfl rfl ?_
      refine .dpu rfl (.n rfl) (P.iac (i := 4) .g0 rfl .g7 runUnderlying157 sizeOf155 rfl rfl) rfl rfl ?_
      refine .dpu rfl (.n rfl) (P.mov .t2) rfl rfl ?_
      refine .dpu rfl (.n rfl) (P.iac (i := 4) .t0 rfl .g5 runUnderlying157 sizeOf155 rfl rfl) rfl rfl ?_
      refine .dld rfl (.n rfl) (V.ld (v := W4 s17.2.a4) .t1 .k0 (.one isAgg155 rfl)) (fun _ h => h) rfl rfl ?_
      refine .dld rfl (.n rfl) (V.ld (v := W4 s43.2.a4) .t1 .k1 (.one isAgg155 rfl)) (fun _ h => h) rfl rfl ?_
      refine .dpu rfl (.n rfl) (P.bin .t1 .t0 (BinV.addW4 (x := s17.2.a4) (y := s43.2.a4))) rfl rfl ?_
      refine .dpu rfl (.n rfl) (P.iac (i := 4) .t1 rfl .g6 runUnderlying157 sizeOf155 rfl rfl) rfl rfl ?_
      refine .dgo rfl (.n rfl) (G.str .t1 .t0 .k0 (.mk (cs' := (hash_eight.cs ⟨s17.2.a0 + s43.2.a0, s17.2.a1 + s43.2.a1, s17.2.a2 + s43.2.a2, s17.2.a3 + s43.2.a3, s17.2.a4 + s43.2.a4, s17.2.a5, s17.2.a6, s17.2.a7⟩)) sizeOf155 rfl rfl rfl rfl)) (.inl rfl) fun _ _ => ?_
      refine .dnil ?_
      refine .inn ?_
      refine .then ?_
      refine .reg rfl ?_
      refine .opp (P.bin (v := N 5) .g0 .k (.addc (by decide))) rfl ?_
      refine .drop .k1 ?_
      refine .opp (P.mov .t0) rfl ?_
      refine .nil ?_
      refine .then ?_
      refine .rd ?_
      refine .seq ?_
      refine .reg rfl ?_
      refine .opp (P.bin (v := Bo true) .g0 .k (BinV.lss.boolc (by decide))) rfl ?_
      refine .nil ?_
      refine .then ?_
      refine .seq ?_
      refine .condT .t0 ?_
      refine .skip ?_
      refine .then ?_
      refine .seq ?_
      refine .block ?_
      refine .seq ?_
      refine .reg rfl ?_
      refine .opp (P.mov .g0) rfl ?_
      refine .opp (P.asg .t0) rfl ?_
      refine .nil ?_
      refine .then ?_
      refine .draw 8 (.on 0 .pu (.on 1 .pu (.on 3 .pu (.on 4 .pu (.on 2 .ld (.on 5 .ld (.on 6 .pu (.on 7 .pu (.on 8 .go .nl))))))))) follows_mixed (.inb (.thn (.thn (.inb (.inb .rnd))))) (by kernel_rfl) ?_
      refine .dpu rfl (.n rfl) (P.mov .g0) rfl rfl ?_
      refine .dpu rfl (.n rfl) (P.iac (i := 5) .g0 rfl .g7 runUnderlying157 sizeOf155 rfl rfl) rfl rfl ?_
      refine .dpu rfl (.n rfl) (P.mov .t2) rfl rfl ?_
      refine .dpu rfl (.n rfl) (P.iac (i := 5) .t0 rfl .g5 runUnderlying157 sizeOf155 rfl rfl) rfl rfl ?_
      refine .dld rfl (.n rfl) (V.ld (v := W4 s17.2.a5) .t1 .k0 (.one isAgg155 rfl)) (fun _ h => h) rfl rfl ?_
      refine .dld rfl (.n rfl) (V.ld (v := W4 s43.2.a5) .t1 .k1 (.one isAgg155 rfl)) (fun _ h => h) rfl rfl ?_
      refine .dpu rfl (.n rfl) (P.bin .t1 .t0 (BinV.addW4 (x := s17.2.a5) (y := s43.2.a5))) rfl rfl ?_
      refine .dpu rfl (.n rfl) (P.iac (i := 5) .t1 rfl .g6 runUnderlying157 sizeOf155 rfl rfl) rfl rfl ?_
      refine .dgo rfl (.n rfl) (G.str .t1 .t0 .k0 (.mk (cs' := (hash_eight.cs ⟨s17.2.a0 + s43.2.a0, s17.2.a1 + s43.2.a1, s17.2.a2 + s43.2.a2, s17.2.a3 + s43.2.a3, s17.2.a4 + s43.2.a4, s17.2.a5 + s43.2.a5, s17.2.a6, s17.2.a7⟩)) sizeOf155 rfl rfl rfl rfl)) (.inl rfl) fun _ _ => ?_
      refine .dnil ?_
      refine .inn ?_
      refine .then ?_
      refine .reg rfl ?_
      refine .opp (P.bin (v := N 6) .g0 .k (.addc (by decide))) rfl ?_
      refine .drop .k1 ?_
      refine .opp (P.mov .t0) rfl ?_
      refine .nil ?_
      refine .then ?_
      refine .rd ?_
      refine .seq ?_
      refine .reg rfl ?_
      refine .opp (P.bin (v := Bo true) .g0 .k (BinV.lss.boolc (by decide))) rfl ?_
      refine .nil ?_
      refine .then ?_
      refine .seq ?_
      refine .condT .t0 ?_
      refine .skip ?_
      refine .then ?_
      refine .seq ?_
      refine .block ?_
      refine .seq ?_
      refine .reg rfl ?_
      refine .opp (P.mov .g0) rfl ?_
      refine .opp (P.asg .t0) rfl ?_
      refine .nil ?_
      refine .then ?_
      refine .draw 8 (.on 0 .pu (.on 1 .pu (.on 3 .pu (.on 4 .pu (.on 2 .ld (.on 5 .ld (.on 6 .pu (.on 7 .pu (.on 8 .go .nl))))))))) follows_mixed (.inb (.thn (.thn (.inb (.inb .rnd))))) (by kernel_rfl) ?_
      refine .dpu rfl (.n rfl) (P.mov .g0) rfl rfl ?_
      refine .dpu rfl (.n rfl) (P.iac (i := 6) .g0 rfl .g7 runUnderlying157 sizeOf155 rfl rfl) rfl rfl ?_
      refine .dpu rfl (.n rfl) (P.mov .t2) rfl rfl ?_
      refine .dpu rfl (.n rfl) (P.iac (i := 6) .t0 rfl .g5 runUnderlying157 sizeOf155 rfl rfl) rfl rfl ?_
      refine .dld rfl (.n rfl) (V.ld (v := W4 s17.2.a6) .t1 .k0 (.one isAgg155 rfl)) (fun _ h => h) rfl rfl ?_
      refine .dld rfl (.n rfl) (V.ld (v := W4 s43.2.a6) .t1 .k1 (.one isAgg155 rfl)) (fun _ h => h) rfl rfl ?_
      refine .dpu rfl (.n rfl) (P.bin .t1 .t0 (BinV.addW4 (x := s17.2.a6) (y := s43.2.a6))) rfl rfl ?_
      refine .dpu rfl (.n rfl) (P.iac (i := 6) .t1 rfl .g6 runUnderlying157 sizeOf155 rfl rfl) rfl rfl ?_
      refine .dgo rfl (.n rfl) (G.str .t1 .t0 .k0 (.mk (cs' := (hash_eight.cs ⟨s17.2.a0 + s43.2.a0, s17.2.a1 + s43.2.a1, s17.2.a2 + s43.2.a2, s17.2.a3 + s43.2.a3, s17.2.a4 + s43.2.a4, s17.2.a5 + s43.2.a5, s17.2.a6 + s43.2.a6, s17.2.a7⟩)) sizeOf155 rfl rfl rfl rfl)) (.inl rfl) fun _ _ => ?_
      refine .dnil ?_
      refine .inn ?_
      refine .then ?_
      refine .reg rfl ?_
      refine .opp (P.bin (v := N 7) .g0 .k (.addc (by decide))) rfl ?_
      refine .drop .k1 ?_
      refine .opp (P.mov .t0) rfl ?_
      refine .nil ?_
      refine .then ?_
      refine .rd ?_
      refine .seq ?_
      refine .reg rfl ?_
      refine .opp (P.bin (v := Bo true) .g0 .k (BinV.lss.boolc (by decide))) rfl ?_
      refine .nil ?_
      refine .then ?_
      refine .seq ?_
      refine .condT .t0 ?_
      refine .skip ?_
      refine .then ?_
      refine .seq ?_
      refine .block ?_
      refine .seq ?_
      refine .reg rfl ?_
      refine .opp (P.mov .g0) rfl ?_
      refine .opp (P.asg .t0) rfl ?_
      refine .nil ?_
      refine .then ?_
      refine .draw 8 (.on 0 .pu (.on 1 .pu (.on 3 .pu (.on 4 .pu (.on 2 .ld (.on 5 .ld (.on 6 .pu (.on 7 .pu (.on 8 .go .nl))))))))) follows_mixed (.inb (.thn (.thn (.inb (.inb .rnd))))) (by kernel_rfl) ?_
      refine .dpu rfl (.n rfl) (P.mov .g0) rfl rfl ?_
      refine .dpu rfl (.n rfl) (P.iac (i := 7) .g0 rfl .g7 runUnderlying157 sizeOf155 rfl rfl) rfl rfl ?_
      refine .dpu rfl (.n rfl) (P.mov .t2) rfl rfl ?_
      refine .dpu rfl (.n rfl) (P.iac (i := 7) .t0 rfl .g5 runUnderlying157 sizeOf155 rfl rfl) rfl rfl ?_
      refine .dld rfl (.n rfl) (V.ld (v := W4 s17.2.a7) .t1 .k0 (.one isAgg155 rfl)) (fun _ h => h) rfl rfl ?_
      refine .dld rfl (.n rfl) (V.ld (v := W4 s43.2.a7) .t1 .k1 (.one isAgg155 rfl)) (fun _ h => h) rfl rfl ?_
      refine .dpu rfl (.n rfl) (P.bin .t1 .t0 (BinV.addW4 (x := s17.2.a7) (y := s43.2.a7))) rfl rfl ?_
      refine .dpu rfl (.n rfl) (P.iac (i := 7) .t1 rfl .g6 runUnderlying157 sizeOf155 rfl rfl) rfl rfl ?_
      refine .dgo rfl (.n rfl) (G.str .t1 .t0 .k0 (.mk (cs' := (hash_eight.cs ⟨s17.2.a0 + s43.2.a0, s17.2.a1 + s43.2.a1, s17.2.a2 + s43.2.a2, s17.2.a3 + s43.2.a3, s17.2.a4 + s43.2.a4, s17.2.a5 + s43.2.a5, s17.2.a6 + s43.2.a6, s17.2.a7 + s43.2.a7⟩)) sizeOf155 rfl rfl rfl rfl)) (.inl rfl) fun _ _ => ?_
      refine .dnil ?_
      refine .inn ?_
      refine .then ?_
      refine .reg rfl ?_
      refine .opp (P.bin (v := N 8) .g0 .k (.addc (by decide))) rfl ?_
      refine .drop .k1 ?_
      refine .opp (P.mov .t0) rfl ?_
      refine .nil ?_
      refine .then ?_
      refine .rd ?_
      refine .seq ?_
      refine .reg rfl ?_
      refine .opp (P.bin (v := Bo false) .g0 .k (BinV.lss.boolc (by decide))) rfl ?_
      refine .nil ?_
      refine .then ?_
      refine .seq ?_
      refine .condF .t0 ?_
      refine .exit ?_
      refine .thx ?_
      refine .thx ?_
      refine .inb ?_
      refine .inn ?_
      refine .rnorm rfl ⟨rfl, rfl, rfl⟩ ha38 hO16 .k5 rfl ?_
      refine .inL rfl ?_
      refine .opp (P.not .t0) rfl ?_
      refine .nil ?_
      refine .then ?_
      refine .condF .t0 ?_
      refine .skip ?_
      refine .inn ?_
      refine .then ?_
      refine .reg rfl ?_
      refine .opp (P.mov .g0) rfl ?_
      refine .op (V.ld (v := N 64) .g4 .k5 (.one isAgg3 rfl)) rfl ?_
      refine .opp (P.bin .t1 .t0 .add) rfl ?_
      refine .drop .k1 ?_
      refine .opp (P.asg .t0) rfl ?_
      refine .nil ?_
      cases hc21
      obtain ⟨m65, hm66, hn22⟩ := hn22
      exact .rdW ((IntKind.i64.wrap (s17.1 + 64), ⟨s17.2.a0 + s43.2.a0, s17.2.a1 + s43.2.a1, s17.2.a2 + s43.2.a2, s17.2.a3 + s43.2.a3, s17.2.a4 + s43.2.a4, s17.2.a5 + s43.2.a5, s17.2.a6 + s43.2.a6, s17.2.a7 + s43.2.a7⟩)) () hm66 hn22 (.cons Mm.m0 (.cons Mm.m1 (.cons Mm.m2 (.cons Mm.m3 .nil)))) (.of (.cons .k4 (.cons .k4 (.cons .k3 (.cons .k1 (.cons .k0 (.cons .k1 .nil))))))) (.cons Mm.m0 (.cons Mm.m1 .nil))
  · rw [if_neg (ne_true_of_eq_false c26)] at hc21
    refine .exit ?_
    refine .thx ?_
    cases hc21
    refine .told (γ := Unit) h hn22 (fun (s17 : Int × hash_eight) _ => [(4, N s17.1), (0, yv l14), (1, pt b9 0), (2, pt b10 0)]) (fun (s17 : Int × hash_eight) _ => [blk b9 131 [u5], blk b10 3 [N 64], blk b2 159 (A64_u32.cs hash_keys), blk b1 157 (hash_eight.cs s17.2), obj l14 (O12 .ready none), obj D13 (.deferred (some []))]) (fun (s17 : Int × hash_eight) _ => [rows 1 u5 (r3.map (fun x => [B8 x])), rows 1 v00 (a0.map (fun x => [B8 x]))]) () (.cons Mm.m0 (.cons Mm.m1 (.cons Mm.m2 (.cons Mm.m3 .nil)))) (.of (.cons .k0 (.cons .k0 (.cons .k0 (.cons .k0 (.cons .k0 (.cons .k0 .nil))))))) (.cons Mm.m0 (.cons Mm.m1 .nil)) (fun s17 _ h' => ?_)
    replace h := h'
    refine .thx ?_
    refine .inb ?_
    refine .rfinn ha15 hO16 .k4 rfl ?_
    refine .inn ?_
    refine .then ?_
    refine .seq ?_
    refine .reg rfl ?_
    refine .opp (P.asg .k) rfl ?_
    refine .nil ?_
    refine .then ?_
    refine .seq ?_
    refine .seq ?_
    refine .reg rfl ?_
    refine .op (V.ld (v := Ag (hash_eight.cs s17.2)) .t2 .k3 (.agg isAgg157 sizeOf157 rfl rfl)) rfl ?_
    refine .opp (P.mov .k) rfl ?_
    refine .nil ?_
    refine .then ?_
    refine .block ?_
    refine .rounds 9 ?_
    refine .rd ?_
    refine .seq ?_
    refine .reg rfl ?_
    refine .opp (P.bin (v := Bo true) .g0 .k (BinV.lss.boolc (by decide))) rfl ?_
    refine .nil ?_
    refine .then ?_
    refine .seq ?_
    refine .condT .t0 ?_
    refine .skip ?_
    refine .then ?_
    refine .seq ?_
    refine .block ?_
    refine .seq ?_
    refine .reg rfl ?_
    refine .opp (P.idx (i := 0) (v := W4 s17.2.a0) .g1 .g0 rfl runUnderlying157 sizeOf155 (by decide) (.one isAgg155 rfl)) rfl ?_
    refine .opp (P.asg .t0) rfl ?_
    refine .nil ?_
    refine .then ?_
    refine .reg rfl ?_
    refine .opp (P.mov .g3) rfl ?_
    refine .opp (P.mov .t1) rfl ?_
    refine .opp (P.cnvIW4 (x := s17.2.a0) .t0 runUnderlying155 runUnderlying3) rfl ?_
    obtain ⟨r67, hr68, h⟩ := bnd_eq h
    refine .opg (G.call call94 (.cons .t0 (.cons .k .nil)) (S_blob_Num (s17.2.a0.toNat : Int) 4 r67 hr68) .nil .nil (fun _ _ => rfl) (fun _ _ => rfl) rfl) rfl fun u69 _ => ?_
    refine .lnil 5 1 ?_
    obtain ⟨hb71, h⟩ := grd_eq h
    refine .opg (G.app (by_ := 1) .t1 .t0 .k0 (.inr (.inr ⟨_, Mm.m0⟩)) runUnderlying131 runUnderlying131 sizeOf5 typeInfo5 rfl rfl zeroValue5 rfl (one_map one_5 _) (by simpa using hb71) rfl) rfl fun u70 _ => ?_
    refine .conseq .k0 (q := lst 5 1 u70 ((([] : List UInt8) ++ r67).map (fun x => [B8 x]))) (fun _ hh => by simpa [List.map_append] using hh) ?_
    refine .drop .k3 ?_
    refine .opp (P.asg .t0) rfl ?_
    refine .nil ?_
    refine .inn ?_
    refine .then ?_
    refine .reg rfl ?_
    refine .opp (P.bin (v := N 1) .g1 .k (.addc (by decide))) rfl ?_
    refine .drop .k2 ?_
    refine .opp (P.mov .t0) rfl ?_
    refine .nil ?_
    refine .then ?_
    refine .rd ?_
    refine .seq ?_
    refine .reg rfl ?_
    refine .opp (P.bin (v := Bo true) .g0 .k (BinV.lss.boolc (by decide))) rfl ?_
    refine .nil ?_
    refine .then ?_
    refine .seq ?_
    refine .condT .t0 ?_
    refine .skip ?_
    refine .then ?_
    refine .seq ?_
    refine .block ?_
    refine .seq ?_
    refine .reg rfl ?_
    refine .opp (P.idx (i := 1) (v := W4 s17.2.a1) .g2 .g0 rfl runUnderlying157 sizeOf155 (by decide) (.one isAgg155 rfl)) rfl ?_
    refine .opp (P.asg .t0) rfl ?_
    refine .nil ?_
    refine .then ?_
    refine .reg rfl ?_
    refine .opp (P.mov .g2) rfl ?_
    refine .opp (P.mov .t1) rfl ?_
    refine .opp (P.cnvIW4 (x := s17.2.a1) .t0 runUnderlying155 runUnderlying3) rfl ?_
    obtain ⟨r72, hr73, h⟩ := bnd_eq h
    refine .opg (G.call call94 (.cons .t0 (.cons .k .nil)) (S_blob_Num (s17.2.a1.toNat : Int) 4 r72 hr73) .nil .nil (fun _ _ => rfl) (fun _ _ => rfl) rfl) rfl fun u74 _ => ?_
    obtain ⟨hb76, h⟩ := grd_eq h
    refine .opg (G.app (by_ := 1) .t1 .t0 .k1 (.inr (.inr ⟨_, Mm.m0⟩)) runUnderlying131 runUnderlying131 sizeOf5 typeInfo5 rfl rfl zeroValue5 rfl (one_map one_5 _) (by simpa using hb76) rfl) rfl fun u75 _ => ?_
    refine .conseq .k0 (q := lst 5 1 u75 (((([] : List UInt8) ++ r67) ++ r72).map (fun x => [B8 x]))) (fun _ hh => by simpa [List.map_append] using hh) ?_
    refine .drop .k2 ?_
    refine .opp (P.asg .t0) rfl ?_
    refine .nil ?_
    refine .inn ?_
    refine .then ?_
    refine .reg rfl ?_
    refine .opp (P.bin (v := N 2) .g1 .k (.addc (by decide))) rfl ?_
    refine .drop .k2 ?_
    refine .opp (P.mov .t0) rfl ?_
    refine .nil ?_
    refine .then ?_
    refine .rd ?_
    refine .seq ?_
    refine .reg rfl ?_
    refine .opp (P.bin (v := Bo true) .g0 .k (BinV.lss.boolc (by decide))) rfl ?_
    refine .nil ?_
    refine .then ?_
    refine .seq ?_
    refine .condT .t0 ?_
    refine .skip ?_
    refine .then ?_
    refine .seq ?_
    refine .block ?_
    refine .seq ?_
    refine .reg rfl ?_
    refine .opp (P.idx (i := 2) (v := W4 s17.2.a2) .g2 .g0 rfl runUnderlying157 sizeOf155 (by decide) (.one isAgg155 rfl)) rfl ?_
    refine .opp (P.asg .t0) rfl ?_
    refine .nil ?_
    refine .then ?_
    refine .reg rfl ?_
    refine .opp (P.mov .g2) rfl ?_
    refine .opp (P.mov .t1) rfl ?_
    refine .opp (P.cnvIW4 (x := s17.2.a2) .t0 runUnderlying155 runUnderlying3) rfl ?_
    obtain ⟨r77, hr78, h⟩ := bnd_eq h
    refine .opg (G.call call94 (.cons .t0 (.cons .k .nil)) (S_blob_Num (s17.2.a2.toNat : Int) 4 r77 hr78) .nil .nil (fun _ _ => rfl) (fun _ _ => rfl) rfl) rfl fun u79 _ => ?_
    obtain ⟨hb81, h⟩ := grd_eq h
    refine .opg (G.app (by_ := 1) .t1 .t0 .k1 (.inr (.inr ⟨_, Mm.m0⟩)) runUnderlying131 runUnderlying131 sizeOf5 typeInfo5 rfl rfl zeroValue5 rfl (one_map one_5 _) (by simpa using hb81) rfl) rfl fun u80 _ => ?_
    refine .conseq .k0 (q := lst 5 1 u80 ((((([] : List UInt8) ++ r67) ++ r72) ++ r77).map (fun x => [B8 x]))) (fun _ hh => by simpa [List.map_append] using hh) ?_
    refine .drop .k2 ?_
    refine .opp (P.asg .t0) rfl ?_
    refine .nil ?_
    refine .inn ?_
    refine .then ?_
    refine .reg rfl ?_
    refine .opp (P.bin (v := N 3) .g1 .k (.addc (by decide))) rfl ?_
    refine .drop .k2 ?_
    refine .opp (P.mov .t0) rfl ?_
    refine .nil ?_
    refine .then ?_
    refine .rd ?_
    refine .seq ?_
    refine .reg rfl ?_
    refine .opp (P.bin (v := Bo true) .g0 .k (BinV.lss.boolc (by decide))) rfl ?_
    refine .nil ?_
    refine .then ?_
    refine .seq ?_
    refine .condT .t0 ?_
    refine .skip ?_
    refine .then ?_
    refine .seq ?_
    refine .block ?_
    refine .seq ?_
    refine .reg rfl ?_
    refine .opp (P.idx (i := 3) (v := W4 s17.2.a3) .g2 .g0 rfl runUnderlying157 sizeOf155 (by decide) (.one isAgg155 rfl)) rfl ?_
    refine .opp (P.asg .t0) rfl ?_
    refine .nil ?_
    refine .then ?_
    refine .reg rfl ?_
    refine .opp (P.mov .g2) rfl ?_
    refine .opp (P.mov .t1) rfl ?_
    refine .opp (P.cnvIW4 (x := s17.2.a3) .t0 runUnderlying155 runUnderlying3) rfl ?_
    obtain ⟨r82, hr83, h⟩ := bnd_eq h
    refine .opg (G.call call94 (.cons .t0 (.cons .k .nil)) (S_blob_Num (s17.2.a3.toNat : Int) 4 r82 hr83) .nil .nil (fun _ _ => rfl) (fun _ _ => rfl) rfl) rfl fun u84 _ => ?_
    obtain ⟨hb86, h⟩ := grd_eq h
    refine .opg (G.app (by_ := 1) .t1 .t0 .k1 (.inr (.inr ⟨_, Mm.m0⟩)) runUnderlying131 runUnderlying131 sizeOf5 typeInfo5 rfl rfl zeroValue5 rfl (one_map one_5 _) (by simpa using hb86) rfl) rfl fun u85 _ => ?_
    refine .conseq .k0 (q := lst 5 1 u85 (((((([] : List UInt8) ++ r67) ++ r72) ++ r77) ++ r82).map (fun x => [B8 x]))) (fun _ hh => by simpa [List.map_append] using hh) ?_
    refine .drop .k2 ?_
    refine .opp (P.asg .t0) rfl ?_
    refine .nil ?_
    refine .inn ?_
    refine .then ?_
    refine .reg rfl ?_
    refine .opp (P.bin (v := N 4) .g1 .k (.addc (by decide))) rfl ?_
    refine .drop .k2 ?_
    refine .opp (P.mov .t0) rfl ?_
    refine .nil ?_
    refine .then ?_
    refine .rd ?_
    refine .seq ?_
    refine .reg rfl ?_
    refine .opp (P.bin (v := Bo true) .g0 .k (BinV.lss.boolc (by decide))) rfl ?_
    refine .nil ?_
    refine .then ?_
    refine .seq ?_
    refine .condT .t0 ?_
    refine .skip ?_
    refine .then ?_
    refine .seq ?_
    refine .block ?_
    refine .seq ?_
    refine .reg rfl ?_
    refine .opp (P.idx (i := 4) (v := W4 s17.2.a4) .g2 .g0 rfl runUnderlying157 sizeOf155 (by decide) (.one isAgg155 rfl)) rfl ?_
    refine .opp (P.asg .t0) rfl ?_
    refine .nil ?_
    refine .then ?_
    refine .reg rfl ?_
    refine .opp (P.mov .g2) rfl ?_
    refine .opp (P.mov .t1) rfl ?_
    refine .opp (P.cnvIW4 (x := s17.2.a4) .t0 runUnderlying155 runUnderlying3) rfl ?_
    obtain ⟨r87, hr88, h⟩ := bnd_eq h
    refine .opg (G.call call94 (.cons .t0 (.cons .k .nil)) (S_blob_Num (s17.2.a4.toNat : Int) 4 r87 hr88) .nil .nil (fun _ _ => rfl) (fun _ _ => rfl) rfl) rfl fun u89 _ => ?_
    obtain ⟨hb91, h⟩ := grd_eq h
    refine .opg (G.app (by_ := 1) .t1 .t0 .k1 (.inr (.inr ⟨_, Mm.m0⟩)) runUnderlying131 runUnderlying131 sizeOf5 typeInfo5 rfl rfl zeroValue5 rfl (one_map one_5 _) (by simpa using hb91) rfl) rfl fun u90 _ => ?_
    refine .conseq .k0 (q := lst 5 1 u90 ((((((([] : List UInt8) ++ r67) ++ r72) ++ r77) ++ r82) ++ r87).map (fun x => [B8 x]))) (fun _ hh => by simpa [List.map_append] using hh) ?_
    refine .drop .k2 ?_
    refine .opp (P.asg .t0) rfl ?_
    refine .nil ?_
    refine .inn ?_
    refine .then ?_
    refine .reg rfl ?_
    refine .opp (P.bin (v := N 5) .g1 .k (.addc (by decide))) rfl ?_
    refine .drop .k2 ?_
    refine .opp (P.mov .t0) rfl ?_
    refine .nil ?_
    refine .then ?_
    refine .rd ?_
    refine .seq ?_
    refine .reg rfl ?_
    refine .opp (P.bin (v := Bo true) .g0 .k (BinV.lss.boolc (by decide))) rfl ?_
    refine .nil ?_
    refine .then ?_
    refine .seq ?_
    refine .condT .t0 ?_
    refine .skip ?_
    refine .then ?_
    refine .seq ?_
    refine .block ?_
    refine .seq ?_
    refine .reg rfl ?_
    refine .opp (P.idx (i := 5) (v := W4 s17.2.a5) .g2 .g0 rfl runUnderlying157 sizeOf155 (by decide) (.one isAgg155 rfl)) rfl ?_
    refine .opp (P.asg .t0) rfl ?_
    refine .nil ?_
    refine .then ?_
    refine .reg rfl ?_
    refine .opp (P.mov .g2) rfl ?_
    refine .opp (P.mov .t1) rfl ?_
    refine .opp (P.cnvIW4 (x := s17.2.a5) .t0 runUnderlying155 runUnderlying3) rfl ?_
    obtain ⟨r92, hr93, h⟩ := bnd_eq h
    refine .opg (G.call call94 (.cons .t0 (.cons .k .nil)) (S_blob_Num (s17.2.a5.toNat : Int) 4 r92 hr93) .nil .nil (fun _ _ => rfl) (fun _ _ => rfl) rfl) rfl fun u94 _ => ?_
    obtain ⟨hb96, h⟩ := grd_eq h
    refine .opg (G.app (by_ := 1) .t1 .t0 .k1 (.inr (.inr ⟨_, Mm.m0⟩)) runUnderlying131 runUnderlying131 sizeOf5 typeInfo5 rfl rfl zeroValue5 rfl (one_map one_5 _) (by simpa using hb96) rfl) rfl fun u95 _ => ?_
    refine .conseq .k0 (q := lst 5 1 u95 (((((((([] : List UInt8) ++ r67) ++ r72) ++ r77) ++ r82) ++ r87) ++ r92).map (fun x => [B8 x]))) (fun _ hh => by simpa [List.map_append] using hh) ?_
    refine .drop .k2 ?_
    refine .opp (P.asg .t0) rfl ?_
    refine .nil ?_
    refine .inn ?_
    refine .then ?_
    refine .reg rfl ?_
    refine .opp (P.bin (v := N 6) .g1 .k (.addc (by decide))) rfl ?_
    refine .drop .k2 ?_
    refine .opp (P.mov .t0) rfl ?_
    refine .nil ?_
    refine .then ?_
    refine .rd ?_
    refine .seq ?_
    refine .reg rfl ?_
    refine .opp (P.bin (v := Bo true) .g0 .k (BinV.lss.boolc (by decide))) rfl ?_
    refine .nil ?_
    refine .then ?_
    refine .seq ?_
    refine .condT .t0 ?_
    refine .skip ?_
    refine .then ?_
    refine .seq ?_
    refine .block ?_
    refine .seq ?_
    refine .reg rfl ?_
    refine .opp (P.idx (i := 6) (v := W4 s17.2.a6) .g2 .g0 rfl runUnderlying157 sizeOf155 (by decide) (.one isAgg155 rfl)) rfl ?_
    refine .opp (P.asg .t0) rfl ?_
    refine .nil ?_
    refine .then ?_
    refine .reg rfl ?_
    refine .opp (P.mov .g2) rfl ?_
    refine .opp (P.mov .t1) rfl ?_
    refine .opp (P.cnvIW4 (x := s17.2.a6) .t0 runUnderlying155 runUnderlying3) rfl ?_
    obtain ⟨r97, hr98, h⟩ := bnd_eq h
    refine .opg (G.call call94 (.cons .t0 (.cons .k .nil)) (S_blob_Num (s17.2.a6.toNat : Int) 4 r97 hr98) .nil .nil (fun _ _ => rfl) (fun _ _ => rfl) rfl) rfl fun u99 _ => ?_
    obtain ⟨hb101, h⟩ := grd_eq h
    refine .opg (G.app (by_ := 1) .t1 .t0 .k1 (.inr (.inr ⟨_, Mm.m0⟩)) runUnderlying131 runUnderlying131 sizeOf5 typeInfo5 rfl rfl zeroValue5 rfl (one_map one_5 _) (by simpa using hb101) rfl) rfl fun u100 _ => ?_
    refine .conseq .k0 (q := lst 5 1 u100 ((((((((([] : List UInt8) ++ r67) ++ r72) ++ r77) ++ r82) ++ r87) ++ r92) ++ r97).map (fun x => [B8 x]))) (fun _ hh => by simpa [List.map_append] using hh) ?_
    refine .drop .k2 ?_
    refine .opp (P.asg .t0) rfl ?_
    refine .nil ?_
    refine .inn ?_
    refine .then ?_
    refine .reg rfl ?_
    refine .opp (P.bin (v := N 7) .g1 .k (.addc (by decide))) rfl ?_
    refine .drop .k2 ?_
    refine .opp (P.mov .t0) rfl ?_
    refine .nil ?_
    refine .then ?_
    refine .rd ?_
    refine .seq ?_
    refine .reg rfl ?_
    refine .opp (P.bin (v := Bo true) .g0 .k (BinV.lss.boolc (by decide))) rfl ?_
    refine .nil ?_
    refine .then ?_
    refine .seq ?_
    refine .condT .t0 ?_
    refine .skip ?_
    refine .then ?_
    refine .seq ?_
    refine .block ?_
    refine .seq ?_
    refine .reg rfl ?_
    refine .opp (P.idx (i := 7) (v := W4 s17.2.a7) .g2 .g0 rfl runUnderlying157 sizeOf155 (by decide) (.one isAgg155 rfl)) rfl ?_
    refine .opp (P.asg .t0) rfl ?_
    refine .nil ?_
    refine .then ?_
    refine .reg rfl ?_
    refine .opp (P.mov .g2) rfl ?_
    refine .opp (P.mov .t1) rfl ?_
    refine .opp (P.cnvIW4 (x := s17.2.a7) .t0 runUnderlying155 runUnderlying3) rfl ?_
    obtain ⟨r102, hr103, h⟩ := bnd_eq h
    refine .opg (G.call call94 (.cons .t0 (.cons .k .nil)) (S_blob_Num (s17.2.a7.toNat : Int) 4 r102 hr103) .nil .nil (fun _ _ => rfl) (fun _ _ => rfl) rfl) rfl fun u104 _ => ?_
    obtain ⟨hb106, h⟩ := grd_eq h
    refine .opg (G.app (by_ := 1) .t1 .t0 .k1 (.inr (.inr ⟨_, Mm.m0⟩)) runUnderlying131 runUnderlying131 sizeOf5 typeInfo5 rfl rfl zeroValue5 rfl (one_map one_5 _) (by simpa using hb106) rfl) rfl fun u105 _ => ?_
    refine .conseq .k0 (q := lst 5 1 u105 (((((((((([] : List UInt8) ++ r67) ++ r72) ++ r77) ++ r82) ++ r87) ++ r92) ++ r97) ++ r102).map (fun x => [B8 x]))) (fun _ hh => by simpa [List.map_append] using hh) ?_
    refine .drop .k2 ?_
    refine .opp (P.asg .t0) rfl ?_
    refine .nil ?_
    refine .inn ?_
    refine .then ?_
    refine .reg rfl ?_
    refine .opp (P.bin (v := N 8) .g1 .k (.addc (by decide))) rfl ?_
    refine .drop .k2 ?_
    refine .opp (P.mov .t0) rfl ?_
    refine .nil ?_
    refine .then ?_
    refine .rd ?_
    refine .seq ?_
    refine .reg rfl ?_
    refine .opp (P.bin (v := Bo false) .g0 .k (BinV.lss.boolc (by decide))) rfl ?_
    refine .nil ?_
    refine .then ?_
    refine .seq ?_
    refine .condF .t0 ?_
    refine .exit ?_
    refine .thx ?_
    refine .thx ?_
    refine .inb ?_
    refine .then ?_
    refine .seq ?_
    refine .reg rfl ?_
    refine .opp (P.mov .t1) rfl ?_
    refine .opp (P.asg .t0) rfl ?_
    refine .nil ?_
    refine .then ?_
    refine .ret ?_
    cases h
    exact .finm u105 .k13 (.r1 rfl (.tmp .g0)) trivial (Ls.of (.cons .k0 .nil)) .nil
attribute [irreducible] hash_Sum
noncomputable def hash_Text_n1 (a0a : List UInt8) : Option (ByteArray) :=
  Option.bind (blob_Cat_n1 a0a) fun r1 => Option.bind (hash_Sum r1) fun r4 => some (⟨⟨r4⟩⟩ : ByteArray)
set_option maxRecDepth 20000 in
set_option maxHeartbeats 1000000 in
theorem S_hash_Text_n1 (v00 : Value) (z00a : Value) (a0a : List UInt8) (r : ByteArray) (h : hash_Text_n1 a0a = some r) :
    SpecF Tryz.prog 83 [v00] [] [rows 1 v00 [[z00a]], rows 1 z00a (a0a.map (fun x => [B8 x]))] (fun z : Unit => True) (fun z => .string r) (fun z M =>  M) (fun z M =>  M) := by
  refine .of func83 rfl ntmps83 rfl fun w0 D0 G0 => ?_
  unfold hash_Text_n1 at h
  refine .seq ?_
  refine .reg rfl ?_
  refine .op0 (OpP.toV (P.asg .k)) rfl ?_
  refine .nil ?_
  refine .then ?_
  refine .seq ?_
  refine .reg rfl ?_
  refine .opp (P.mov .t0) rfl ?_
  obtain ⟨r1, hr2, h⟩ := bnd_eq h
  refine .opg (G.call call91 (.cons .t0 .nil) (S_blob_Cat_n1 v00 z00a a0a r1 hr2) .nil (.cons Mm.m0 (.cons Mm.m1 .nil)) (fun _ _ => rfl) (fun _ _ => rfl) rfl) rfl fun u3 _ => ?_
  refine .frz .k0 ?_
  obtain ⟨r4, hr5, h⟩ := bnd_eq h
  refine .opg (G.call call92 (.cons .t0 .nil) (S_hash_Sum u3 r1 r4 hr5) .nil (.cons Mm.m0 .nil) (fun _ _ => rfl) (fun _ _ => rfl) rfl) rfl fun u6 _ => ?_
  refine .op (V.b2sl (l := r4) (e := 5) .t0 .k0 (by kernel_rfl) (by kernel_rfl) (by kernel_rfl)) rfl ?_
  refine .opp (P.asg .t0) rfl ?_
  refine .nil ?_
  refine .then ?_
  refine .ret ?_
  cases h
  exact .finw () (.r1 rfl (.tmp .g0)) trivial (Ls.of .nil) .nil
attribute [irreducible] hash_Text_n1
noncomputable def deal_Key (a0 : api_Inv) : Option (ByteArray) :=
  if (decide ((deal_Check a0) ≠ 0)) = true then (some ⟨#[]⟩) else (Option.bind (deal_Put field_New a0) fun r5 => Option.bind (field_Out_Done r5) fun r8 => Option.bind (hash_Text_n1 r8.1) fun r13 => some r13)
set_option maxRecDepth 20000 in
set_option maxHeartbeats 1000000 in
theorem S_deal_Key (a0 : api_Inv) (r : ByteArray) (h : deal_Key a0 = some r) :
    SpecF Tryz.prog 75 [Ag (api_Inv.cs a0)] [] [] (fun z : Unit => True) (fun z => .string r) (fun z M =>  M) (fun z M =>  M) := by
  refine .of func75 rfl ntmps75 rfl fun w0 D0 G0 => ?_
  unfold deal_Key at h
  refine .seq ?_
  refine .reg rfl ?_
  refine .opx (X.box (cs := (api_Inv.cs a0)) .t0 rfl) rfl fun b1 => ?_
  refine .op0 (OpP.toV (P.asg .k)) rfl ?_
  refine .nil ?_
  refine .then ?_
  refine .seq ?_
  refine .seq ?_
  refine .reg rfl ?_
  refine .op (V.ld (v := Ag (api_Inv.cs a0)) .g0 .k0 (.agg isAgg32 sizeOf32 rfl rfl)) rfl ?_
  refine .opg (G.call call43 (.cons .t0 .nil) (S_deal_Check a0 _ rfl) .nil .nil (fun _ _ => rfl) (fun _ _ => rfl) rfl) rfl fun _ _ => ?_
  refine .opp (P.bin .t0 .k .neq) rfl ?_
  refine .nil ?_
  refine .then ?_
  refine .cond .t0 (fun c2 => ?_) (fun c2 => ?_)
  · rw [if_pos c2] at h
    refine .seq ?_
    refine .reg rfl ?_
    refine .opp (P.asg .k) rfl ?_
    refine .nil ?_
    refine .then ?_
    refine .ret ?_
    refine .thr ?_
    cases h
    exact .finw () (.r1 rfl (.tmp .g0)) trivial (Ls.of .nil) .nil
  · rw [if_neg (ne_true_of_eq_false c2)] at h
    refine .skip ?_
    refine .then ?_
    refine .seq ?_
    refine .reg rfl ?_
    refine .opg (G.call call80 .nil (S_field_New  _ rfl) .nil .nil (fun _ _ => rfl) (fun _ _ => rfl) rfl) rfl fun ⟨b3, u4⟩ _ => ?_
    refine .opp (P.asg .t0) rfl ?_
    refine .nil ?_
    refine .then ?_
    refine .seq ?_
    refine .reg rfl ?_
    refine .opp (P.mov .g0) rfl ?_
    refine .op (V.ld (v := Ag (api_Inv.cs a0)) .t2 .k2 (.agg isAgg32 sizeOf32 rfl rfl)) rfl ?_
    obtain ⟨r5, hr6, h⟩ := bnd_eq h
    refine .opg (G.call call81 (.cons .t1 (.cons .t0 .nil)) (S_deal_Put b3 field_New u4 a0 r5 hr6) (.cons .k0 (.cons .k0 .nil)) .nil (fun _ _ => rfl) (fun _ _ => rfl) rfl) rfl fun u7 _ => ?_
    refine .drop .k0 ?_
    refine .nil ?_
    refine .then ?_
    refine .seq ?_
    refine .reg rfl ?_
    refine .opp (P.mov .t0) rfl ?_
    obtain ⟨r8, hr9, h⟩ := bnd_eq h
    refine .opg (G.call call82 (.cons .t0 .nil) (S_field_Out_Done b3 r5 u7 r8 hr9) (.cons .k0 (.cons .k0 .nil)) .nil (fun _ _ => rfl) (fun _ _ => rfl) rfl) rfl fun u10 _ => ?_
    refine .opp (P.mov .t0) rfl ?_
    refine .opp (P.ext (v := u10) .g0 rfl) rfl ?_
    refine .opp (P.ext (v := N r8.2) .t1 rfl) rfl ?_
    refine .opp (P.asg .t1) rfl ?_
    refine .op0 (OpP.toV (P.asg .t1)) rfl ?_
    refine .nil ?_
    refine .then ?_
    refine .seq ?_
    refine .reg rfl ?_
    refine .opp (P.mov .t0) rfl ?_
    refine .onel .k2 fun ho12 => ?_
    refine .opg (G.bsl (cs := [u10]) .t0 runUnderlying146 sizeOf131 zeroValue131 (cells1 ho12) rfl rfl rfl rfl) rfl fun u11 _ => ?_
    refine .frz .k0 ?_
    refine .frz .k2 ?_
    obtain ⟨r13, hr14, h⟩ := bnd_eq h
    refine .opg (G.call call83 (.cons .t0 .nil) (S_hash_Text_n1 u11 u10 r8.1 r13 hr14) .nil (.cons Mm.m1 (.cons Mm.m0 .nil)) (fun _ _ => rfl) (fun _ _ => rfl) rfl) rfl fun _ _ => ?_
    refine .opp (P.asg .t0) rfl ?_
    refine .nil ?_
    refine .then ?_
    refine .ret ?_
    cases h
    exact .finw () (.r1 rfl (.tmp .g0)) trivial (Ls.of .nil) .nil
attribute [irreducible] deal_Key
noncomputable def escrow_State_place_1_c (a0 : escrow_Lock) (a1 : ByteArray) : Bool :=
  decide (a0.Key = a1)
set_option maxRecDepth 20000 in
set_option maxHeartbeats 1000000 in
theorem S_escrow_State_place_1_c (a0 : escrow_Lock) (b01 : Nat) (a1 : ByteArray) (r : Bool) (h : escrow_State_place_1_c a0 a1 = r) :
    SpecF Tryz.prog 85 [Ag (escrow_Lock.cs a0), pt b01 0] [blk b01 9 [.string a1]] [] (fun z : Unit => True) (fun z => Bo r) (fun z M => blk b01 9 [.string a1] ::  M) (fun z M =>  M) := by
  refine .of func85 rfl ntmps85 rfl fun w0 D0 G0 => ?_
  unfold escrow_State_place_1_c at h
  refine .seq ?_
  refine .reg rfl ?_
  refine .opx (X.box (cs := (escrow_Lock.cs a0)) .t0 rfl) rfl fun b1 => ?_
  refine .op0 (OpP.toV (P.asg .k)) rfl ?_
  refine .nil ?_
  refine .then ?_
  refine .seq ?_
  refine .reg rfl ?_
  refine .opp (P.fa .t0 fa_76_0 rfl) rfl ?_
  refine .op (V.ld (v := .string a0.Key) .t0 .k0 (.one isAgg9 rfl)) rfl ?_
  refine .op (V.ld (v := .string a1) .t1 .k1 (.one isAgg9 rfl)) rfl ?_
  refine .opp (P.bin .t1 .t0 .str_eql) rfl ?_
  refine .opp (P.asg .t0) rfl ?_
  refine .nil ?_
  refine .then ?_
  refine .ret ?_
  subst h
  exact .finw () (.r1 rfl (.tmp .g0)) trivial (Ls.of (.cons .k1 .nil)) .nil
attribute [irreducible] escrow_State_place_1_c
noncomputable def slices_IndexFunc_escrow_Lock_escrow_State_place_1 (a0 : List escrow_Lock) (a1a : ByteArray) : Option (Int) :=
  Option.bind (loopR (fun (i1 : Nat) (e4 : escrow_Lock) (s2 : Unit) => if (escrow_State_place_1_c e4 a1a) = true then (Option.map Ct.rt (some (i1 : Int))) else (some (.nx ()))) 0 a0 ()) fun o5 => Lo.on o5 fun (s2 : Unit) => some (-1)
set_option maxRecDepth 20000 in
set_option maxHeartbeats 1000000 in
theorem S_slices_IndexFunc_escrow_Lock_escrow_State_place_1 (v00 : Value) (a0 : List escrow_Lock) (b01a : Nat) (a1a : ByteArray) (r : Int) (h : slices_IndexFunc_escrow_Lock_escrow_State_place_1 a0 a1a = some r) :
    SpecF Tryz.prog 84 [v00, fnv 85 [pt b01a 0]] [blk b01a 9 [.string a1a]] [rows 3 v00 (a0.map escrow_Lock.cs)] (fun z : Unit => True) (fun z => N r) (fun z M => blk b01a 9 [.string a1a] ::  M) (fun z M =>  M) := by
  refine .of func84 rfl ntmps84 rfl fun w0 D0 G0 => ?_
  unfold slices_IndexFunc_escrow_Lock_escrow_State_place_1 at h
  refine .seq ?_
  refine .reg rfl ?_
  refine .op0 (OpP.toV (P.asg .k)) rfl ?_
  refine .nil ?_
  refine .then ?_
  refine .seq ?_
  refine .seq ?_
  refine .reg rfl ?_
  refine .opp (P.mov .g0) rfl ?_
  refine .op (V.lnr (n := a0.length) .t0 Mm.m0 map_len runUnderlying43) rfl ?_
  refine .opp (P.mov .k) rfl ?_
  refine .nil ?_
  refine .then ?_
  refine .block ?_
  obtain ⟨o5, ho6, h⟩ := bnd_eq h
  refine .lenq Mm.m0 fun hl12 => ?_
  rw [map_len] at hl12
  refine .loopR (γ := Unit) (fun i1 (s2 : Unit) z3 => [(8, N (i1 : Int)), (7, N (a0.length : Int)), (0, v00), (1, fnv 85 [pt b01a 0])]) (fun (s2 : Unit) z3 => [blk b01a 9 [.string a1a]]) (fun (s2 : Unit) z3 => [rows 3 v00 (a0.map escrow_Lock.cs)]) () ho6 (.cons Mm.m0 (.cons Mm.m1 (.cons Mm.m2 (.cons Mm.m3 .nil)))) (.of (.cons .k0 .nil)) (.cons Mm.m0 .nil) (fun i1 s2 z3 hi13 hr9 => ?_)
  refine .seq ?_
  refine .reg rfl ?_
  refine .opp (P.bin (v := Bo (decide ((i1 : Int) < (a0.length : Nat)))) .g0 .g1 .lss) rfl ?_
  refine .nil ?_
  refine .then ?_
  refine .seq ?_
  refine .cond .t0 (fun c14 => ?_) (fun c14 => ?_)
  · obtain ⟨e4, hx11⟩ := get_of c14
    obtain ⟨ct10, hc7, hn8⟩ := loopR_at hx11 hr9
    refine .skip ?_
    refine .then ?_
    refine .seq ?_
    refine .block ?_
    refine .seq ?_
    refine .reg rfl ?_
    refine .opp (P.mov .g0) rfl ?_
    refine .opp (P.asg .t0) rfl ?_
    refine .nil ?_
    refine .then ?_
    refine .seq ?_
    refine .reg rfl ?_
    refine .opp (P.mov .g4) rfl ?_
    refine .opp (P.mov .g4) rfl ?_
    refine .opp (P.mov .g2) rfl ?_
    refine .ixq Mm.m0 (map_get hx11) fun p15 q16 hq17 => ?_
    refine .opp (P.ixi (i := i1) .t0 rfl .t0 hq17 runUnderlying43 sizeOf76) rfl ?_
    refine .op (V.ldx0 (u := Ag (escrow_Lock.cs e4)) .t0 hq17 Mm.m0 (map_get hx11) (.agg isAgg76 sizeOf76 rfl rfl)) rfl ?_
    refine .opg (G.callv call85 .t1 (.cons .t0 .nil) (S_escrow_State_place_1_c e4 b01a a1a _ rfl) (.cons .k0 .nil) .nil (fun _ _ => rfl) (fun _ _ => rfl) rfl) rfl fun _ _ => ?_
    refine .nil ?_
    refine .then ?_
    refine .cond .t0 (fun c18 => ?_) (fun c18 => ?_)
    · rw [if_pos c18] at hc7
      refine .seq ?_
      refine .reg rfl ?_
      refine .opp (P.mov .t0) rfl ?_
      refine .opp (P.asg .t0) rfl ?_
      refine .nil ?_
      refine .then ?_
      refine .ret ?_
      refine .inr ?_
      refine .thr ?_
      obtain ⟨x19, hx20, rfl⟩ := map_rt hc7
      obtain rfl := hn8
      obtain rfl := rt_on h
      refine .thr ?_
      refine .inr ?_
      refine .thr ?_
      cases hx20
      exact .finw () (.r1 rfl (.tmp .g0)) trivial (Ls.of (.cons .k0 .nil)) .nil
    · rw [if_neg (ne_true_of_eq_false c18)] at hc7
      refine .skip ?_
      refine .inn ?_
      refine .then ?_
      refine .reg rfl ?_
      refine .opp (P.bin .g1 .k (.addc (inc_ok (lt_of_get hx11) hl12))) rfl ?_
      refine .drop .k2 ?_
      refine .opp (P.mov .t0) rfl ?_
      refine .nil ?_
      cases hc7
      exact .rdR () () hn8 (lt_of_get hx11) (.cons Mm.m0 (.cons Mm.m2 (.cons Mm.m3 (.cons Mm.m4 .nil)))) (.of (.cons .k0 .nil)) (.cons Mm.m0 .nil)
  · obtain rfl := loopR_end (le_of_not c14) hr9
    have h := dn_on h
    refine .exit ?_
    refine .thx ?_
    refine .thx ?_
    refine .inb ?_
    refine .then ?_
    refine .seq ?_
    refine .reg rfl ?_
    refine .opp (P.asg .k) rfl ?_
    refine .nil ?_
    refine .then ?_
    refine .ret ?_
    cases h
    exact .finw () (.r1 rfl (.tmp .g0)) trivial (Ls.of (.cons .k0 .nil)) .nil
attribute [irreducible] slices_IndexFunc_escrow_Lock_escrow_State_place_1
noncomputable def escrow_State_place (a0 : escrow_State) (a1 : ByteArray) : Option (Int) :=
  Option.bind (slices_IndexFunc_escrow_Lock_escrow_State_place_1 a0.Locks a1) fun r2 => some r2
set_option maxRecDepth 20000 in
set_option maxHeartbeats 1000000 in
theorem S_escrow_State_place (b00 : Nat) (a0 : escrow_State) (z00a : Value) (a1 : ByteArray) (r : Int) (h : escrow_State_place a0 a1 = some r) :
    SpecF Tryz.prog 76 [pt b00 0, .string a1] [blk b00 45 (escrow_State.cs a0 z00a), lst 76 3 z00a (a0.Locks.map escrow_Lock.cs)] [] (fun z : Unit => True) (fun z => N r) (fun z M => blk b00 45 (escrow_State.cs a0 z00a) :: lst 76 3 z00a (a0.Locks.map escrow_Lock.cs) ::  M) (fun z M =>  M) := by
  refine .of func76 rfl ntmps76 rfl fun w0 D0 G0 => ?_
  unfold escrow_State_place at h
  refine .seq ?_
  refine .reg rfl ?_
  refine .opx (X.box (cs := [.string a1]) .t1 rfl) rfl fun b1 => ?_
  refine .op0 (OpP.toV (P.asg .k)) rfl ?_
  refine .nil ?_
  refine .then ?_
  refine .seq ?_
  refine .reg rfl ?_
  refine .opp (P.mov .t1) rfl ?_
  refine .opp (P.nilc .t0) rfl ?_
  refine .opp (P.fa .t0 fa_45_7 rfl) rfl ?_
  refine .op (V.ld (v := z00a) .t0 .k1 (.one isAgg43 rfl)) rfl ?_
  refine .opp (P.mkf (.cons .t1 .nil)) rfl ?_
  obtain ⟨r2, hr3, h⟩ := bnd_eq h
  refine .opg (G.calll call84 (.cons .t1 (.cons .t0 .nil)) (S_slices_IndexFunc_escrow_Lock_escrow_State_place_1 z00a a0.Locks b1 a1 r2 hr3) (.cons .k0 .nil) (.imp (List.mem_append_right _ Mm.m1) (fun _ => lst_rows) .nil) (fun _ _ => rfl) rfl) rfl fun _ _ => ?_
  refine .opp (P.asg .t0) rfl ?_
  refine .nil ?_
  refine .then ?_
  refine .ret ?_
  cases h
  exact .finw () (.r1 rfl (.tmp .g0)) trivial (Ls.of (.cons .k1 (.cons .k1 .nil))) .nil
attribute [irreducible] escrow_State_place
noncomputable def slices_Backward_uint64  : Unit :=
  ()
set_option maxRecDepth 20000 in
set_option maxHeartbeats 1000000 in
theorem S_slices_Backward_uint64 (v00 : Value) (hv00 : IsSl v00) (r : Unit) (h : slices_Backward_uint64  = r) :
    SpecF Tryz.prog 120 [v00] [] [] (fun z : Nat => True) (fun z => fnv 126 [pt z 0]) (fun z M => blk z 184 [v00] ::  M) (fun z M =>  M) := by
  refine .of func120 rfl ntmps120 rfl fun w0 D0 G0 => ?_
  unfold slices_Backward_uint64 at h
  refine .seq ?_
  refine .reg rfl ?_
  refine .opx (X.box (cs := [v00]) .t0 hv00.cells) rfl fun b1 => ?_
  refine .op0 (OpP.toV (P.asg .k)) rfl ?_
  refine .nil ?_
  refine .then ?_
  refine .seq ?_
  refine .reg rfl ?_
  refine .opp (P.mkf (.cons .t0 .nil)) rfl ?_
  refine .opp (P.asg .t0) rfl ?_
  refine .nil ?_
  refine .then ?_
  refine .ret ?_
  subst h
  exact .finw b1 (.r1 rfl (.tmp .g0)) trivial (Ls.of (.cons .k0 .nil)) .nil
attribute [irreducible] slices_Backward_uint64
noncomputable def blob_Wide (a0 : api_Wide) : Option ((List UInt8)) :=
  Option.bind (loopW (fun (s12 : Int × (List UInt8)) => if (decide (s12.1 ≥ 0)) = true then (grd (0 ≤ s12.1) <| grd ((s12.2.length + ([B8i ((rshU a0.a3 s12.1).toNat : Int)] : List UInt8).length) * 1 ≤ 140737488355328) <| some (.nx ((IntKind.i64.wrap (s12.1 - 8), (s12.2 ++ ([B8i ((rshU a0.a3 s12.1).toNat : Int)] : List UInt8)))))) else (some (.br (s12.1, s12.2)))) (56, [])) fun o14 => Lo.on o14 fun (s12 : Int × (List UInt8)) => Option.bind (loopW (fun (s31 : Int × (List UInt8)) => if (decide (s31.1 ≥ 0)) = true then (grd (0 ≤ s31.1) <| grd ((s31.2.length + ([B8i ((rshU a0.a2 s31.1).toNat : Int)] : List UInt8).length) * 1 ≤ 140737488355328) <| some (.nx ((IntKind.i64.wrap (s31.1 - 8), (s31.2 ++ ([B8i ((rshU a0.a2 s31.1).toNat : Int)] : List UInt8)))))) else (some (.br (s31.1, s31.2)))) (56, s12.2)) fun o33 => Lo.on o33 fun (s31 : Int × (List UInt8)) => Option.bind (loopW (fun (s50 : Int × (List UInt8)) => if (decide (s50.1 ≥ 0)) = true then (grd (0 ≤ s50.1) <| grd ((s50.2.length + ([B8i ((rshU a0.a1 s50.1).toNat : Int)] : List UInt8).length) * 1 ≤ 140737488355328) <| some (.nx ((IntKind.i64.wrap (s50.1 - 8), (s50.2 ++ ([B8i ((rshU a0.a1 s50.1).toNat : Int)] : List UInt8)))))) else (some (.br (s50.1, s50.2)))) (56, s31.2)) fun o52 => Lo.on o52 fun (s50 : Int × (List UInt8)) => Option.bind (loopW (fun (s69 : Int × (List UInt8)) => if (decide (s69.1 ≥ 0)) = true then (grd (0 ≤ s69.1) <| grd ((s69.2.length + ([B8i ((rshU a0.a0 s69.1).toNat : Int)] : List UInt8).length) * 1 ≤ 140737488355328) <| some (.nx ((IntKind.i64.wrap (s69.1 - 8), (s69.2 ++ ([B8i ((rshU a0.a0 s69.1).toNat : Int)] : List UInt8)))))) else (some (.br (s69.1, s69.2)))) (56, s50.2)) fun o71 => Lo.on o71 fun (s69 : Int × (List UInt8)) => some s69.2
set_option maxRecDepth 20000 in
set_option maxHeartbeats 1000000 in
theorem S_blob_Wide (a0 : api_Wide) (r : (List UInt8)) (h : blob_Wide a0 = some r) :
    SpecF Tryz.prog 108 [Ag (api_Wide.cs a0)] [] [] (fun z : Value => True) (fun z => z) (fun z M => lst 5 1 z (r.map (fun x => [B8 x])) ::  M) (fun z M =>  M) := by
  refine .of func108 rfl ntmps108 rfl fun w0 D0 G0 => ?_
  unfold blob_Wide at h
  refine .seq ?_
  refine .reg rfl ?_
  refine .opx (X.box (cs := (api_Wide.cs a0)) .t0 rfl) rfl fun b1 => ?_
  refine .op0 (OpP.toV (P.asg .k)) rfl ?_
  refine .nil ?_
  refine .then ?_
  refine .seq ?_
  refine .reg rfl ?_
  refine .opx (X.alc (cs := [nilSl]) zeroValue131 rfl) rfl fun b2 => ?_
  refine .nil ?_
  refine .then ?_
  refine .seq ?_
  refine .seq ?_
  refine .reg rfl ?_
  refine .opp (P.sla .t1 runUnderlying30 sizeOf28) rfl ?_
  refine .opg (G.call call120 (.cons .t0 .nil) (S_slices_Backward_uint64 (.slice (some ⟨b1, 0, none⟩) 4 4) .mk _ rfl) .nil .nil (fun _ _ => rfl) (fun _ _ => rfl) rfl) rfl fun b3 _ => ?_
  refine .nil ?_
  refine .then ?_
  refine .block ?_
  refine .rangeF rfl .t0 call126 func126 rfl ntmps126 rfl fun a4 O5 D6 l7 ha8 hO9 => ?_
  refine .seq ?_
  refine .reg rfl ?_
  refine .op (V.ld (v := (.slice (some ⟨b1, 0, none⟩) 4 4)) .g1 .k2 (.one isAgg184 rfl)) rfl ?_
  refine .opp (P.lena .t0 runUnderlying184) rfl ?_
  refine .opp (P.bin (v := N 3) .t0 .k (.subc (by decide))) rfl ?_
  refine .opp (P.asg .t0) rfl ?_
  refine .nil ?_
  refine .then ?_
  refine .block ?_
  refine .rounds 5 ?_
  refine .rd ?_
  refine .seq ?_
  refine .seq ?_
  refine .reg rfl ?_
  refine .opp (P.mov .g0) rfl ?_
  refine .opp (P.bin (v := Bo true) .t0 .k (BinV.geq.boolc (by decide))) rfl ?_
  refine .nil ?_
  refine .then ?_
  refine .condT .t0 ?_
  refine .skip ?_
  refine .then ?_
  refine .seq ?_
  refine .block ?_
  refine .seq ?_
  refine .regY 6 rfl ?_
  refine .opp (P.mov .g1) rfl ?_
  refine .opp (P.mov .g1) rfl ?_
  refine .op (V.ld (v := (.slice (some ⟨b1, 0, none⟩) 4 4)) .g4 .k2 (.one isAgg184 rfl)) rfl ?_
  refine .opp (P.mov .g3) rfl ?_
  refine .opp (P.ixa (i := 3) .t0 rfl .t0 runUnderlying184 sizeOf28 (by decide) rfl) rfl ?_
  refine .op (V.ld (v := U a0.a3) .t0 .k4 (.one isAgg28 rfl)) rfl ?_
  refine .nil ?_
  refine .then ?_
  refine .yield (ps := [9, 10]) .t2 (.cons .t1 (.cons .t0 .nil)) hO9 .k0 rfl rfl (by decide) fun a10 ha11 => ?_
  refine .reg rfl ?_
  refine .opp (P.asg .t1) rfl ?_
  refine .nil ?_
  refine .then ?_
  refine .bg rfl hO9 .k0 ?_
  refine .block ?_
  refine .seq ?_
  refine .reg rfl ?_
  refine .opp (P.asg .k) rfl ?_
  refine .nil ?_
  refine .then ?_
  refine .block ?_
  refine .lnil 5 1 ?_
  obtain ⟨o14, ho15, h⟩ := bnd_eq h
  refine .loopW (γ := Value) (fun (s12 : Int × (List UInt8)) z13 => [(6, N s12.1), (5, U a0.a3), (3, pt b2 0)]) (fun (s12 : Int × (List UInt8)) z13 => [blk b2 131 [z13], blk b3 184 [(.slice (some ⟨b1, 0, none⟩) 4 4)], blk b1 30 (api_Wide.cs a0), lst 5 1 z13 (s12.2.map (fun x => [B8 x])), obj l7 (O5 .busy none), obj D6 (.deferred (some []))]) (fun (s12 : Int × (List UInt8)) z13 => []) nilSl ho15 (.cons Mm.m0 (.cons Mm.m1 (.cons Mm.m3 .nil))) (.of (.cons .k4 (.cons .k3 (.cons .k3 (.cons .k0 (.cons .k0 (.cons .k0 .nil))))))) .nil (fun n20 s12 z13 hr18 => ?_)
  obtain ⟨ct19, hc16, hn17⟩ := loopK_at hr18
  refine .seq ?_
  refine .seq ?_
  refine .reg rfl ?_
  refine .opp (P.mov .g0) rfl ?_
  refine .opp (P.bin .t0 .k .geq) rfl ?_
  refine .nil ?_
  refine .then ?_
  refine .cond .t0 (fun c21 => ?_) (fun c21 => ?_)
  · rw [if_pos c21] at hc16
    refine .skip ?_
    refine .then ?_
    refine .seq ?_
    refine .block ?_
    obtain ⟨hb22, hc16⟩ := grd_eq hc16
    obtain ⟨hb25, hc16⟩ := grd_eq hc16
    refine .dcut (γ := Value × Value) (φ := fun _ => True) (E1 := fun x_ => [(6, N s12.1), (5, U a0.a3), (3, pt b2 0)]) (L1 := fun x_ => [blk b2 131 [x_.2], lst 5 1 x_.2 ((s12.2 ++ ([B8i ((rshU a0.a3 s12.1).toNat : Int)] : List UInt8)).map (fun x => [B8 x])), lst 5 1 x_.1 [[B8 (B8i ((rshU a0.a3 s12.1).toNat : Int))]], blk b3 184 [(.slice (some ⟨b1, 0, none⟩) 4 4)], blk b1 30 (api_Wide.cs a0), obj l7 (O5 .busy none), obj D6 (.deferred (some []))]) (R1 := fun x_ => []) ?_ (fun x_ _ => ?_)
    · refine .draw 5 (.on 1 .pu (.on 2 .pu (.on 3 .pu (.on 4 .pu (.fk 0 5 (.on 5 .go (.on 6 .go (.on 7 .go .nl))) (.on 0 .go (.on 6 .go (.on 7 .go .nl)))))))) follows_mixed (.thn (.inb (.thn (.thn (.inb (.inb .rnd)))))) (by kernel_rfl) ?_
      refine .dpu rfl (.n rfl) (P.mov .g1) rfl rfl ?_
      refine .dpu rfl (.n rfl) (P.mov .g1) rfl rfl ?_
      refine .dpu rfl (.n rfl) (P.bin .t1 .t0 (BinV.shrU (x := a0.a3) (n := s12.1) hb22)) rfl rfl ?_
      refine .dpu rfl (.n rfl) (P.cnvB8 (m := ((rshU a0.a3 s12.1).toNat : Int)) .t0 runUnderlying28 runUnderlying5) rfl rfl ?_
      refine .dfk ?_ ?_
      · refine .dgo rfl (.n rfl) (OpV.g (V.ld (v := z13) .g3 .k0 (.one isAgg131 rfl)) rfl) (.inr fun _ _ _ h => h) fun _ _ => ?_
        refine .dgo rfl (.n rfl) (G.bsl (cs := [B8 (B8i ((rshU a0.a3 s12.1).toNat : Int))]) .t1 runUnderlying131 sizeOf5 zeroValue5 rfl rfl rfl rfl rfl) (.inl rfl) fun u23 _ => ?_
        refine .dgo rfl (.n rfl) (G.app (by_ := 1) .t1 .t0 .k4 (.inr (.inr ⟨_, Mm.m0⟩)) runUnderlying131 runUnderlying131 sizeOf5 typeInfo5 rfl rfl zeroValue5 rfl rfl (by simpa using hb25) rfl) (.inl rfl) fun u24 _ => ?_
        refine .conseq .k0 (q := lst 5 1 u24 ((s12.2 ++ ([B8i ((rshU a0.a3 s12.1).toNat : Int)] : List UInt8)).map (fun x => [B8 x]))) (fun _ hh => by simpa [List.map_append] using hh) ?_
        refine .onel .k0 fun ho26 => ?_
        refine .dgo rfl (.n rfl) (G.str .t0 .g2 .k2 (.mk1 (cs' := [u24]) sizeOf131 rfl ho26 rfl rfl)) (.inl rfl) fun _ _ => ?_
        refine .dnil ?_
        exact .dst ⟨u23, u24⟩ trivial (.cons Mm.m0 (.cons Mm.m1 (.cons Mm.m2 .nil))) (Ls.of (.cons .k0 (.cons .k0 (.cons .k0 (.cons .k0 (.cons .k0 (.cons .k0 (.cons .k0 .nil)))))))) .nil
      · refine .dgo rfl (.n rfl) (G.bsl (cs := [B8 (B8i ((rshU a0.a3 s12.1).toNat : Int))]) .t0 runUnderlying131 sizeOf5 zeroValue5 rfl rfl rfl rfl rfl) (.inl rfl) fun u23 _ => ?_
        refine .dgo rfl (.n rfl) (OpV.g (V.ld (v := z13) .g3 .k1 (.one isAgg131 rfl)) rfl) (.inl rfl) fun _ _ => ?_
        refine .dgo rfl (.n rfl) (G.app (by_ := 1) .t0 .t0 .k4 (.inr (.inr ⟨_, Mm.m0⟩)) runUnderlying131 runUnderlying131 sizeOf5 typeInfo5 rfl rfl zeroValue5 rfl rfl (by simpa using hb25) rfl) (.inl rfl) fun u24 _ => ?_
        refine .conseq .k0 (q := lst 5 1 u24 ((s12.2 ++ ([B8i ((rshU a0.a3 s12.1).toNat : Int)] : List UInt8)).map (fun x => [B8 x]))) (fun _ hh => by simpa [List.map_append] using hh) ?_
        refine .onel .k0 fun ho26 => ?_
        refine .dgo rfl (.n rfl) (G.str .t0 .g2 .k2 (.mk1 (cs' := [u24]) sizeOf131 rfl ho26 rfl rfl)) (.inl rfl) fun _ _ => ?_
        refine .dnil ?_
        exact .dst ⟨u23, u24⟩ trivial (.cons Mm.m0 (.cons Mm.m1 (.cons Mm.m2 .nil))) (Ls.of (.cons .k0 (.cons .k0 (.cons .k0 (.cons .k0 (.cons .k0 (.cons .k0 (.cons .k0 .nil)))))))) .nil
    · obtain ⟨u23, u24⟩ := x_
      refine .inn ?_
      refine .then ?_
      refine .reg rfl ?_
      refine .opp (P.mov .g0) rfl ?_
      refine .opp (P.bin .t0 .k .sub) rfl ?_
      refine .drop .k1 ?_
      refine .opp (P.asg .t0) rfl ?_
      refine .nil ?_
      cases hc16
      obtain ⟨m27, hm28, hn17⟩ := hn17
      exact .rdW ((IntKind.i64.wrap (s12.1 - 8), (s12.2 ++ ([B8i ((rshU a0.a3 s12.1).toNat : Int)] : List UInt8)))) u24 hm28 hn17 (.cons Mm.m0 (.cons Mm.m1 (.cons Mm.m2 .nil))) (.of (.cons .k0 (.cons .k2 (.cons .k2 (.cons .k0 (.cons .k1 (.cons .k1 .nil))))))) .nil
  · rw [if_neg (ne_true_of_eq_false c21)] at hc16
    refine .exit ?_
    refine .thx ?_
    cases hc16
    refine .told (γ := Value) h hn17 (fun (s12 : Int × (List UInt8)) z13 => [(6, N s12.1), (5, U a0.a3), (3, pt b2 0)]) (fun (s12 : Int × (List UInt8)) z13 => [blk b2 131 [z13], blk b3 184 [(.slice (some ⟨b1, 0, none⟩) 4 4)], blk b1 30 (api_Wide.cs a0), lst 5 1 z13 (s12.2.map (fun x => [B8 x])), obj l7 (O5 .busy none), obj D6 (.deferred (some []))]) (fun (s12 : Int × (List UInt8)) z13 => []) z13 (.cons Mm.m0 (.cons Mm.m1 (.cons Mm.m2 .nil))) (.of (.cons .k0 (.cons .k0 (.cons .k0 (.cons .k0 (.cons .k0 (.cons .k0 .nil))))))) .nil (fun s12 z13 h' => ?_)
    replace h := h'
    refine .thx ?_
    refine .inb ?_
    refine .inn ?_
    refine .rnorm rfl ⟨rfl, rfl, rfl⟩ ha11 hO9 .k4 rfl ?_
    refine .inL rfl ?_
    refine .opp (P.not .t0) rfl ?_
    refine .nil ?_
    refine .then ?_
    refine .condF .t0 ?_
    refine .skip ?_
    refine .inn ?_
    refine .then ?_
    refine .reg rfl ?_
    refine .opp (P.mov .g0) rfl ?_
    refine .opp (P.bin (v := N 2) .t0 .k (.subc (by decide))) rfl ?_
    refine .drop .k1 ?_
    refine .opp (P.asg .t0) rfl ?_
    refine .nil ?_
    refine .then ?_
    refine .rd ?_
    refine .seq ?_
    refine .seq ?_
    refine .reg rfl ?_
    refine .opp (P.mov .g0) rfl ?_
    refine .opp (P.bin (v := Bo true) .t0 .k (BinV.geq.boolc (by decide))) rfl ?_
    refine .nil ?_
    refine .then ?_
    refine .condT .t0 ?_
    refine .skip ?_
    refine .then ?_
    refine .seq ?_
    refine .block ?_
    refine .seq ?_
    refine .regY 6 rfl ?_
    refine .opp (P.mov .g1) rfl ?_
    refine .opp (P.mov .g1) rfl ?_
    refine .op (V.ld (v := (.slice (some ⟨b1, 0, none⟩) 4 4)) .g4 .k2 (.one isAgg184 rfl)) rfl ?_
    refine .opp (P.mov .g3) rfl ?_
    refine .opp (P.ixa (i := 2) .t0 rfl .t0 runUnderlying184 sizeOf28 (by decide) rfl) rfl ?_
    refine .op (V.ld (v := U a0.a2) .t0 .k3 (.one isAgg28 rfl)) rfl ?_
    refine .nil ?_
    refine .then ?_
    refine .yield (ps := [9, 10]) .t2 (.cons .t1 (.cons .t0 .nil)) hO9 .k0 rfl rfl (by decide) fun a29 ha30 => ?_
    refine .reg rfl ?_
    refine .opp (P.asg .t1) rfl ?_
    refine .nil ?_
    refine .then ?_
    refine .bg rfl hO9 .k0 ?_
    refine .block ?_
    refine .seq ?_
    refine .reg rfl ?_
    refine .opp (P.asg .k) rfl ?_
    refine .nil ?_
    refine .then ?_
    refine .block ?_
    obtain ⟨o33, ho34, h⟩ := bnd_eq h
    refine .loopW (γ := Value) (fun (s31 : Int × (List UInt8)) z32 => [(6, N s31.1), (5, U a0.a2), (3, pt b2 0)]) (fun (s31 : Int × (List UInt8)) z32 => [blk b2 131 [z32], blk b3 184 [(.slice (some ⟨b1, 0, none⟩) 4 4)], blk b1 30 (api_Wide.cs a0), lst 5 1 z32 (s31.2.map (fun x => [B8 x])), obj l7 (O5 .busy none), obj D6 (.deferred (some []))]) (fun (s31 : Int × (List UInt8)) z32 => []) z13 ho34 (.cons Mm.m0 (.cons Mm.m1 (.cons Mm.m3 .nil))) (.of (.cons .k1 (.cons .k1 (.cons .k1 (.cons .k1 (.cons .k0 (.cons .k0 .nil))))))) .nil (fun n39 s31 z32 hr37 => ?_)
    obtain ⟨ct38, hc35, hn36⟩ := loopK_at hr37
    refine .seq ?_
    refine .seq ?_
    refine .reg rfl ?_
    refine .opp (P.mov .g0) rfl ?_
    refine .opp (P.bin .t0 .k .geq) rfl ?_
    refine .nil ?_
    refine .then ?_
    refine .cond .t0 (fun c40 => ?_) (fun c40 => ?_)
    · rw [if_pos c40] at hc35
      refine .skip ?_
      refine .then ?_
      refine .seq ?_
      refine .block ?_
      obtain ⟨hb41, hc35⟩ := grd_eq hc35
      obtain ⟨hb44, hc35⟩ := grd_eq hc35
      refine .dcut (γ := Value × Value) (φ := fun _ => True) (E1 := fun x_ => [(6, N s31.1), (5, U a0.a2), (3, pt b2 0)]) (L1 := fun x_ => [blk b2 131 [x_.2], lst 5 1 x_.2 ((s31.2 ++ ([B8i ((rshU a0.a2 s31.1).toNat : Int)] : List UInt8)).map (fun x => [B8 x])), lst 5 1 x_.1 [[B8 (B8i ((rshU a0.a2 s31.1).toNat : Int))]], blk b3 184 [(.slice (some ⟨b1, 0, none⟩) 4 4)], blk b1 30 (api_Wide.cs a0), obj l7 (O5 .busy none), obj D6 (.deferred (some []))]) (R1 := fun x_ => []) ?_ (fun x_ _ => ?_)
      · refine .draw 5 (.on 1 .pu (.on 2 .pu (.on 3 .pu (.on 4 .pu (.fk 0 5 (.on 5 .go (.on 6 .go (.on 7 .go .nl))) (.on 0 .go (.on 6 .go (.on 7 .go .nl)))))))) follows_mixed (.thn (.inb (.thn (.thn (.inb (.inb .rnd)))))) (by kernel_rfl) ?_
        refine .dpu rfl (.n rfl) (P.mov .g1) rfl rfl ?_
        refine .dpu rfl (.n rfl) (P.mov .g1) rfl rfl ?_
        refine .dpu rfl (.n rfl) (P.bin .t1 .t0 (BinV.shrU (x := a0.a2) (n := s31.1) hb41)) rfl rfl ?_
        refine .dpu rfl (.n rfl) (P.cnvB8 (m := ((rshU a0.a2 s31.1).toNat : Int)) .t0 runUnderlying28 runUnderlying5) rfl rfl ?_
        refine .dfk ?_ ?_
        · refine .dgo rfl (.n rfl) (OpV.g (V.ld (v := z32) .g3 .k0 (.one isAgg131 rfl)) rfl) (.inr fun _ _ _ h => h) fun _ _ => ?_
          refine .dgo rfl (.n rfl) (G.bsl (cs := [B8 (B8i ((rshU a0.a2 s31.1).toNat : Int))]) .t1 runUnderlying131 sizeOf5 zeroValue5 rfl rfl rfl rfl rfl) (.inl rfl) fun u42 _ => ?_
          refine .dgo rfl (.n rfl) (G.app (by_ := 1) .t1 .t0 .k4 (.inr (.inr ⟨_, Mm.m0⟩)) runUnderlying131 runUnderlying131 sizeOf5 typeInfo5 rfl rfl zeroValue5 rfl rfl (by simpa using hb44) rfl) (.inl rfl) fun u43 _ => ?_
          refine .conseq .k0 (q := lst 5 1 u43 ((s31.2 ++ ([B8i ((rshU a0.a2 s31.1).toNat : Int)] : List UInt8)).map (fun x => [B8 x]))) (fun _ hh => by simpa [List.map_append] using hh) ?_
          refine .onel .k0 fun ho45 => ?_
          refine .dgo rfl (.n rfl) (G.str .t0 .g2 .k2 (.mk1 (cs' := [u43]) sizeOf131 rfl ho45 rfl rfl)) (.inl rfl) fun _ _ => ?_
          refine .dnil ?_
          exact .dst ⟨u42, u43⟩ trivial (.cons Mm.m0 (.cons Mm.m1 (.cons Mm.m2 .nil))) (Ls.of (.cons .k0 (.cons .k0 (.cons .k0 (.cons .k0 (.cons .k0 (.cons .k0 (.cons .k0 .nil)))))))) .nil
        · refine .dgo rfl (.n rfl) (G.bsl (cs := [B8 (B8i ((rshU a0.a2 s31.1).toNat : Int))]) .t0 runUnderlying131 sizeOf5 zeroValue5 rfl rfl rfl rfl rfl) (.inl rfl) fun u42 _ => ?_
          refine .dgo rfl (.n rfl) (OpV.g (V.ld (v := z32) .g3 .k1 (.one isAgg131 rfl)) rfl) (.inl rfl) fun _ _ => ?_
          refine .dgo rfl (.n rfl) (G.app (by_ := 1) .t0 .t0 .k4 (.inr (.inr ⟨_, Mm.m0⟩)) runUnderlying131 runUnderlying131 sizeOf5 typeInfo5 rfl rfl zeroValue5 rfl rfl (by simpa using hb44) rfl) (.inl rfl) fun u43 _ => ?_
          refine .conseq .k0 (q := lst 5 1 u43 ((s31.2 ++ ([B8i ((rshU a0.a2 s31.1).toNat : Int)] : List UInt8)).map (fun x => [B8 x]))) (fun _ hh => by simpa [List.map_append] using hh) ?_
          refine .onel .k0 fun ho45 => ?_
          refine .dgo rfl (.n rfl) (G.str .t0 .g2 .k2 (.mk1 (cs' := [u43]) sizeOf131 rfl ho45 rfl rfl)) (.inl rfl) fun _ _ => ?_
          refine .dnil ?_
          exact .dst ⟨u42, u43⟩ trivial (.cons Mm.m0 (.cons Mm.m1 (.cons Mm.m2 .nil))) (Ls.of (.cons .k0 (.cons .k0 (.cons .k0 (.cons .k0 (.cons .k0 (.cons .k0 (.cons .k0 .nil)))))))) .nil
      · obtain ⟨u42, u43⟩ := x_
        refine .inn ?_
        refine .then ?_
        refine .reg rfl ?_
        refine .opp (P.mov .g0) rfl ?_
        refine .opp (P.bin .t0 .k .sub) rfl ?_
        refine .drop .k1 ?_
        refine .opp (P.asg .t0) rfl ?_
        refine .nil ?_
        cases hc35
        obtain ⟨m46, hm47, hn36⟩ := hn36
        exact .rdW ((IntKind.i64.wrap (s31.1 - 8), (s31.2 ++ ([B8i ((rshU a0.a2 s31.1).toNat : Int)] : List UInt8)))) u43 hm47 hn36 (.cons Mm.m0 (.cons Mm.m1 (.cons Mm.m2 .nil))) (.of (.cons .k0 (.cons .k2 (.cons .k2 (.cons .k0 (.cons .k1 (.cons .k1 .nil))))))) .nil
    · rw [if_neg (ne_true_of_eq_false c40)] at hc35
      refine .exit ?_
      refine .thx ?_
      cases hc35
      refine .told (γ := Value) h hn36 (fun (s31 : Int × (List UInt8)) z32 => [(6, N s31.1), (5, U a0.a2), (3, pt b2 0)]) (fun (s31 : Int × (List UInt8)) z32 => [blk b2 131 [z32], blk b3 184 [(.slice (some ⟨b1, 0, none⟩) 4 4)], blk b1 30 (api_Wide.cs a0), lst 5 1 z32 (s31.2.map (fun x => [B8 x])), obj l7 (O5 .busy none), obj D6 (.deferred (some []))]) (fun (s31 : Int × (List UInt8)) z32 => []) z32 (.cons Mm.m0 (.cons Mm.m1 (.cons Mm.m2 .nil))) (.of (.cons .k0 (.cons .k0 (.cons .k0 (.cons .k0 (.cons .k0 (.cons .k0 .nil))))))) .nil (fun s31 z32 h' => ?_)
      replace h := h'
      refine .thx ?_
      refine .inb ?_
      refine .inn ?_
      refine .rnorm rfl ⟨rfl, rfl, rfl⟩ ha30 hO9 .k4 rfl ?_
      refine .inL rfl ?_
      refine .opp (P.not .t0) rfl ?_
      refine .nil ?_
      refine .then ?_
      refine .condF .t0 ?_
      refine .skip ?_
      refine .inn ?_
      refine .then ?_
      refine .reg rfl ?_
      refine .opp (P.mov .g0) rfl ?_
      refine .opp (P.bin (v := N 1) .t0 .k (.subc (by decide))) rfl ?_
      refine .drop .k1 ?_
      refine .opp (P.asg .t0) rfl ?_
      refine .nil ?_
      refine .then ?_
      refine .rd ?_
      refine .seq ?_
      refine .seq ?_
      refine .reg rfl ?_
      refine .opp (P.mov .g0) rfl ?_
      refine .opp (P.bin (v := Bo true) .t0 .k (BinV.geq.boolc (by decide))) rfl ?_
      refine .nil ?_
      refine .then ?_
      refine .condT .t0 ?_
      refine .skip ?_
      refine .then ?_
      refine .seq ?_
      refine .block ?_
      refine .seq ?_
      refine .regY 6 rfl ?_
      refine .opp (P.mov .g1) rfl ?_
      refine .opp (P.mov .g1) rfl ?_
      refine .op (V.ld (v := (.slice (some ⟨b1, 0, none⟩) 4 4)) .g4 .k2 (.one isAgg184 rfl)) rfl ?_
      refine .opp (P.mov .g3) rfl ?_
      refine .opp (P.ixa (i := 1) .t0 rfl .t0 runUnderlying184 sizeOf28 (by decide) rfl) rfl ?_
      refine .op (V.ld (v := U a0.a1) .t0 .k3 (.one isAgg28 rfl)) rfl ?_
      refine .nil ?_
      refine .then ?_
      refine .yield (ps := [9, 10]) .t2 (.cons .t1 (.cons .t0 .nil)) hO9 .k0 rfl rfl (by decide) fun a48 ha49 => ?_
      refine .reg rfl ?_
      refine .opp (P.asg .t1) rfl ?_
      refine .nil ?_
      refine .then ?_
      refine .bg rfl hO9 .k0 ?_
      refine .block ?_
      refine .seq ?_
      refine .reg rfl ?_
      refine .opp (P.asg .k) rfl ?_
      refine .nil ?_
      refine .then ?_
      refine .block ?_
      obtain ⟨o52, ho53, h⟩ := bnd_eq h
      refine .loopW (γ := Value) (fun (s50 : Int × (List UInt8)) z51 => [(6, N s50.1), (5, U a0.a1), (3, pt b2 0)]) (fun (s50 : Int × (List UInt8)) z51 => [blk b2 131 [z51], blk b3 184 [(.slice (some ⟨b1, 0, none⟩) 4 4)], blk b1 30 (api_Wide.cs a0), lst 5 1 z51 (s50.2.map (fun x => [B8 x])), obj l7 (O5 .busy none), obj D6 (.deferred (some []))]) (fun (s50 : Int × (List UInt8)) z51 => []) z32 ho53 (.cons Mm.m0 (.cons Mm.m1 (.cons Mm.m3 .nil))) (.of (.cons .k1 (.cons .k1 (.cons .k1 (.cons .k1 (.cons .k0 (.cons .k0 .nil))))))) .nil (fun n58 s50 z51 hr56 => ?_)
      obtain ⟨ct57, hc54, hn55⟩ := loopK_at hr56
      refine .seq ?_
      refine .seq ?_
      refine .reg rfl ?_
      refine .opp (P.mov .g0) rfl ?_
      refine .opp (P.bin .t0 .k .geq) rfl ?_
      refine .nil ?_
      refine .then ?_
      refine .cond .t0 (fun c59 => ?_) (fun c59 => ?_)
      · rw [if_pos c59] at hc54
        refine .skip ?_
        refine .then ?_
        refine .seq ?_
        refine .block ?_
        obtain ⟨hb60, hc54⟩ := grd_eq hc54
        obtain ⟨hb63, hc54⟩ := grd_eq hc54
        refine .dcut (γ := Value × Value) (φ := fun _ => True) (E1 := fun x_ => [(6, N s50.1), (5, U a0.a1), (3, pt b2 0)]) (L1 := fun x_ => [blk b2 131 [x_.2], lst 5 1 x_.2 ((s50.2 ++ ([B8i ((rshU a0.a1 s50.1).toNat : Int)] : List UInt8)).map (fun x => [B8 x])), lst 5 1 x_.1 [[B8 (B8i ((rshU a0.a1 s50.1).toNat : Int))]], blk b3 184 [(.slice (some ⟨b1, 0, none⟩) 4 4)], blk b1 30 (api_Wide.cs a0), obj l7 (O5 .busy none), obj D6 (.deferred (some []))]) (R1 := fun x_ => []) ?_ (fun x_ _ => ?_)
        · refine .draw 5 (.on 1 .pu (.on 2 .pu (.on 3 .pu (.on 4 .pu (.fk 0 5 (.on 5 .go (.on 6 .go (.on 7 .go .nl))) (.on 0 .go (.on 6 .go (.on 7 .go .nl)))))))) follows_mixed (.thn (.inb (.thn (.thn (.inb (.inb .rnd)))))) (by kernel_rfl) ?_
          refine .dpu rfl (.n rfl) (P.mov .g1) rfl rfl ?_
          refine .dpu rfl (.n rfl) (P.mov .g1) rfl rfl ?_
          refine .dpu rfl (.n rfl) (P.bin .t1 .t0 (BinV.shrU (x := a0.a1) (n := s50.1) hb60)) rfl rfl ?_
          refine .dpu rfl (.n rfl) (P.cnvB8 (m := ((rshU a0.a1 s50.1).toNat : Int)) .t0 runUnderlying28 runUnderlying5) rfl rfl ?_
          refine .dfk ?_ ?_
          · refine .dgo rfl (.n rfl) (OpV.g (V.ld (v := z51) .g3 .k0 (.one isAgg131 rfl)) rfl) (.inr fun _ _ _ h => h) fun _ _ => ?_
            refine .dgo rfl (.n rfl) (G.bsl (cs := [B8 (B8i ((rshU a0.a1 s50.1).toNat : Int))]) .t1 runUnderlying131 sizeOf5 zeroValue5 rfl rfl rfl rfl rfl) (.inl rfl) fun u61 _ => ?_
            refine .dgo rfl (.n rfl) (G.app (by_ := 1) .t1 .t0 .k4 (.inr (.inr ⟨_, Mm.m0⟩)) runUnderlying131 runUnderlying131 sizeOf5 typeInfo5 rfl rfl zeroValue5 rfl rfl (by simpa using hb63) rfl) (.inl rfl) fun u62 _ => ?_
            refine .conseq .k0 (q := lst 5 1 u62 ((s50.2 ++ ([B8i ((rshU a0.a1 s50.1).toNat : Int)] : List UInt8)).map (fun x => [B8 x]))) (fun _ hh => by simpa [List.map_append] using hh) ?_
            refine .onel .k0 fun ho64 => ?_
            refine .dgo rfl (.n rfl) (G.str .t0 .g2 .k2 (.mk1 (cs' := [u62]) sizeOf131 rfl ho64 rfl rfl)) (.inl rfl) fun _ _ => ?_
            refine .dnil ?_
            exact .dst ⟨u61, u62⟩ trivial (.cons Mm.m0 (.cons Mm.m1 (.cons Mm.m2 .nil))) (Ls.of (.cons .k0 (.cons .k0 (.cons .k0 (.cons .k0 (.cons .k0 (.cons .k0 (.cons .k0 .nil)))))))) .nil
          · refine .dgo rfl (.n rfl) (G.bsl (cs := [B8 (B8i ((rshU a0.a1 s50.1).toNat : Int))]) .t0 runUnderlying131 sizeOf5 zeroValue5 rfl rfl rfl rfl rfl) (.inl rfl) fun u61 _ => ?_
            refine .dgo rfl (.n rfl) (OpV.g (V.ld (v := z51) .g3 .k1 (.one isAgg131 rfl)) rfl) (.inl rfl) fun _ _ => ?_
            refine .dgo rfl (.n rfl) (G.app (by_ := 1) .t0 .t0 .k4 (.inr (.inr ⟨_, Mm.m0⟩)) runUnderlying131 runUnderlying131 sizeOf5 typeInfo5 rfl rfl zeroValue5 rfl rfl (by simpa using hb63) rfl) (.inl rfl) fun u62 _ => ?_
            refine .conseq .k0 (q := lst 5 1 u62 ((s50.2 ++ ([B8i ((rshU a0.a1 s50.1).toNat : Int)] : List UInt8)).map (fun x => [B8 x]))) (fun _ hh => by simpa [List.map_append] using hh) ?_
            refine .onel .k0 fun ho64 => ?_
            refine .dgo rfl (.n rfl) (G.str .t0 .g2 .k2 (.mk1 (cs' := [u62]) sizeOf131 rfl ho64 rfl rfl)) (.inl rfl) fun _ _ => ?_
            refine .dnil ?_
            exact .dst ⟨u61, u62⟩ trivial (.cons Mm.m0 (.cons Mm.m1 (.cons Mm.m2 .nil))) (Ls.of (.cons .k0 (.cons .k0 (.cons .k0 (.cons .k0 (.cons .k0 (.cons .k0 (.cons .k0 .nil)))))))) .nil
        · obtain ⟨u61, u62⟩ := x_
          refine .inn ?_
          refine .then ?_
          refine .reg rfl ?_
          refine .opp (P.mov .g0) rfl ?_
          refine .opp (P.bin .t0 .k .sub) rfl ?_
          refine .drop .k1 ?_
          refine .opp (P.asg .t0) rfl ?_
          refine .nil ?_
          cases hc54
          obtain ⟨m65, hm66, hn55⟩ := hn55
          exact .rdW ((IntKind.i64.wrap (s50.1 - 8), (s50.2 ++ ([B8i ((rshU a0.a1 s50.1).toNat : Int)] : List UInt8)))) u62 hm66 hn55 (.cons Mm.m0 (.cons Mm.m1 (.cons Mm.m2 .nil))) (.of (.cons .k0 (.cons .k2 (.cons .k2 (.cons .k0 (.cons .k1 (.cons .k1 .nil))))))) .nil
      · rw [if_neg (ne_true_of_eq_false c59)] at hc54
        refine .exit ?_
        refine .thx ?_
        cases hc54
        refine .told (γ := Value) h hn55 (fun (s50 : Int × (List UInt8)) z51 => [(6, N s50.1), (5, U a0.a1), (3, pt b2 0)]) (fun (s50 : Int × (List UInt8)) z51 => [blk b2 131 [z51], blk b3 184 [(.slice (some ⟨b1, 0, none⟩) 4 4)], blk b1 30 (api_Wide.cs a0), lst 5 1 z51 (s50.2.map (fun x => [B8 x])), obj l7 (O5 .busy none), obj D6 (.deferred (some []))]) (fun (s50 : Int × (List UInt8)) z51 => []) z51 (.cons Mm.m0 (.cons Mm.m1 (.cons Mm.m2 .nil))) (.of (.cons .k0 (.cons .k0 (.cons .k0 (.cons .k0 (.cons .k0 (.cons .k0 .nil))))))) .nil (fun s50 z51 h' => ?_)
        replace h := h'
        refine .thx ?_
        refine .inb ?_
        refine .inn ?_
        refine .rnorm rfl ⟨rfl, rfl, rfl⟩ ha49 hO9 .k4 rfl ?_
        refine .inL rfl ?_
        refine .opp (P.not .t0) rfl ?_
        refine .nil ?_
        refine .then ?_
        refine .condF .t0 ?_
        refine .skip ?_
        refine .inn ?_
        refine .then ?_
        refine .reg rfl ?_
        refine .opp (P.mov .g0) rfl ?_
        refine .opp (P.bin (v := N 0) .t0 .k (.subc (by decide))) rfl ?_
        refine .drop .k1 ?_
        refine .opp (P.asg .t0) rfl ?_
        refine .nil ?_
        refine .then ?_
        refine .rd ?_
        refine .seq ?_
        refine .seq ?_
        refine .reg rfl ?_
        refine .opp (P.mov .g0) rfl ?_
        refine .opp (P.bin (v := Bo true) .t0 .k (BinV.geq.boolc (by decide))) rfl ?_
        refine .nil ?_
        refine .then ?_
        refine .condT .t0 ?_
        refine .skip ?_
        refine .then ?_
        refine .seq ?_
        refine .block ?_
        refine .seq ?_
        refine .regY 6 rfl ?_
        refine .opp (P.mov .g1) rfl ?_
        refine .opp (P.mov .g1) rfl ?_
        refine .op (V.ld (v := (.slice (some ⟨b1, 0, none⟩) 4 4)) .g4 .k2 (.one isAgg184 rfl)) rfl ?_
        refine .opp (P.mov .g3) rfl ?_
        refine .opp (P.ixa (i := 0) .t0 rfl .t0 runUnderlying184 sizeOf28 (by decide) rfl) rfl ?_
        refine .op (V.ld (v := U a0.a0) .t0 .k3 (.one isAgg28 rfl)) rfl ?_
        refine .nil ?_
        refine .then ?_
        refine .yield (ps := [9, 10]) .t2 (.cons .t1 (.cons .t0 .nil)) hO9 .k0 rfl rfl (by decide) fun a67 ha68 => ?_
        refine .reg rfl ?_
        refine .opp (P.asg .t1) rfl ?_
        refine .nil ?_
        refine .then ?_
        refine .bg rfl hO9 .k0 ?_
        refine .block ?_
        refine .seq ?_
        refine .reg rfl ?_
        refine .opp (P.asg .k) rfl ?_
        refine .nil ?_
        refine .then ?_
        refine .block ?_
        obtain ⟨o71, ho72, h⟩ := bnd_eq h
        refine .loopW (γ := Value) (fun (s69 : Int × (List UInt8)) z70 => [(6, N s69.1), (5, U a0.a0), (3, pt b2 0)]) (fun (s69 : Int × (List UInt8)) z70 => [blk b2 131 [z70], blk b3 184 [(.slice (some ⟨b1, 0, none⟩) 4 4)], blk b1 30 (api_Wide.cs a0), lst 5 1 z70 (s69.2.map (fun x => [B8 x])), obj l7 (O5 .busy none), obj D6 (.deferred (some []))]) (fun (s69 : Int × (List UInt8)) z70 => []) z51 ho72 (.cons Mm.m0 (.cons Mm.m1 (.cons Mm.m3 .nil))) (.of (.cons .k1 (.cons .k1 (.cons .k1 (.cons .k1 (.cons .k0 (.cons .k0 .nil))))))) .nil (fun n77 s69 z70 hr75 => ?_)
        obtain ⟨ct76, hc73, hn74⟩ := loopK_at hr75
        refine .seq ?_
        refine .seq ?_
        refine .reg rfl ?_
        refine .opp (P.mov .g0) rfl ?_
        refine .opp (P.bin .t0 .k .geq) rfl ?_
        refine .nil ?_
        refine .then ?_
        refine .cond .t0 (fun c78 => ?_) (fun c78 => ?_)
        · rw [if_pos c78] at hc73
          refine .skip ?_
          refine .then ?_
          refine .seq ?_
          refine .block ?_
          obtain ⟨hb79, hc73⟩ := grd_eq hc73
          obtain ⟨hb82, hc73⟩ := grd_eq hc73
          refine .dcut (γ := Value × Value) (φ := fun _ => True) (E1 := fun x_ => [(6, N s69.1), (5, U a0.a0), (3, pt b2 0)]) (L1 := fun x_ => [blk b2 131 [x_.2], lst 5 1 x_.2 ((s69.2 ++ ([B8i ((rshU a0.a0 s69.1).toNat : Int)] : List UInt8)).map (fun x => [B8 x])), lst 5 1 x_.1 [[B8 (B8i ((rshU a0.a0 s69.1).toNat : Int))]], blk b3 184 [(.slice (some ⟨b1, 0, none⟩) 4 4)], blk b1 30 (api_Wide.cs a0), obj l7 (O5 .busy none), obj D6 (.deferred (some []))]) (R1 := fun x_ => []) ?_ (fun x_ _ => ?_)
          · refine .draw 5 (.on 1 .pu (.on 2 .pu (.on 3 .pu (.on 4 .pu (.fk 0 5 (.on 5 .go (.on 6 .go (.on 7 .go .nl))) (.on 0 .go (.on 6 .go (.on 7 .go .nl)))))))) follows_mixed (.thn (.inb (.thn (.thn (.inb (.inb .rnd)))))) (by kernel_rfl) ?_
            refine .dpu rfl (.n rfl) (P.mov .g1) rfl rfl ?_
            refine .dpu rfl (.n rfl) (P.mov .g1) rfl rfl ?_
            refine .dpu rfl (.n rfl) (P.bin .t1 .t0 (BinV.shrU (x := a0.a0) (n := s69.1) hb79)) rfl rfl ?_
            refine .dpu rfl (.n rfl) (P.cnvB8 (m := ((rshU a0.a0 s69.1).toNat : Int)) .t0 runUnderlying28 runUnderlying5) rfl rfl ?_
            refine .dfk ?_ ?_
            · refine .dgo rfl (.n rfl) (OpV.g (V.ld (v := z70) .g3 .k0 (.one isAgg131 rfl)) rfl) (.inr fun _ _ _ h => h) fun _ _ => ?_
              refine .dgo rfl (.n rfl) (G.bsl (cs := [B8 (B8i ((rshU a0.a0 s69.1).toNat : Int))]) .t1 runUnderlying131 sizeOf5 zeroValue5 rfl rfl rfl rfl rfl) (.inl rfl) fun u80 _ => ?_
              refine .dgo rfl (.n rfl) (G.app (by_ := 1) .t1 .t0 .k4 (.inr (.inr ⟨_, Mm.m0⟩)) runUnderlying131 runUnderlying131 sizeOf5 typeInfo5 rfl rfl zeroValue5 rfl rfl (by simpa using hb82) rfl) (.inl rfl) fun u81 _ => ?_
              refine .conseq .k0 (q := lst 5 1 u81 ((s69.2 ++ ([B8i ((rshU a0.a0 s69.1).toNat : Int)] : List UInt8)).map (fun x => [B8 x]))) (fun _ hh => by simpa [List.map_append] using hh) ?_
              refine .onel .k0 fun ho83 => ?_
              refine .dgo rfl (.n rfl) (G.str .t0 .g2 .k2 (.mk1 (cs' := [u81]) sizeOf131 rfl ho83 rfl rfl)) (.inl rfl) fun _ _ => ?_
              refine .dnil ?_
              exact .dst ⟨u80, u81⟩ trivial (.cons Mm.m0 (.cons Mm.m1 (.cons Mm.m2 .nil))) (Ls.of (.cons .k0 (.cons .k0 (.cons .k0 (.cons .k0 (.cons .k0 (.cons .k0 (.cons .k0 .nil)))))))) .nil
            · refine .dgo rfl (.n rfl) (G.bsl (cs := [B8 (B8i ((rshU a0.a0 s69.1).toNat : Int))]) .t0 runUnderlying131 sizeOf5 zeroValue5 rfl rfl rfl rfl rfl) (.inl rfl) fun u80 _ => ?_
              refine .dgo rfl (.n rfl) (OpV.g (V.ld (v := z70) .g3 .k1 (.one isAgg131 rfl)) rfl) (.inl rfl) fun _ _ => ?_
              refine .dgo rfl (.n rfl) (G.app (by_ := 1) .t0 .t0 .k4 (.inr (.inr ⟨_, Mm.m0⟩)) runUnderlying131 runUnderlying131 sizeOf5 typeInfo5 rfl rfl zeroValue5 rfl rfl (by simpa using hb82) rfl) (.inl rfl) fun u81 _ => ?_
              refine .conseq .k0 (q := lst 5 1 u81 ((s69.2 ++ ([B8i ((rshU a0.a0 s69.1).toNat : Int)] : List UInt8)).map (fun x => [B8 x]))) (fun _ hh => by simpa [List.map_append] using hh) ?_
              refine .onel .k0 fun ho83 => ?_
              refine .dgo rfl (.n rfl) (G.str .t0 .g2 .k2 (.mk1 (cs' := [u81]) sizeOf131 rfl ho83 rfl rfl)) (.inl rfl) fun _ _ => ?_
              refine .dnil ?_
              exact .dst ⟨u80, u81⟩ trivial (.cons Mm.m0 (.cons Mm.m1 (.cons Mm.m2 .nil))) (Ls.of (.cons .k0 (.cons .k0 (.cons .k0 (.cons .k0 (.cons .k0 (.cons .k0 (.cons .k0 .nil)))))))) .nil
          · obtain ⟨u80, u81⟩ := x_
            refine .inn ?_
            refine .then ?_
            refine .reg rfl ?_
            refine .opp (P.mov .g0) rfl ?_
            refine .opp (P.bin .t0 .k .sub) rfl ?_
            refine .drop .k1 ?_
            refine .opp (P.asg .t0) rfl ?_
            refine .nil ?_
            cases hc73
            obtain ⟨m84, hm85, hn74⟩ := hn74
            exact .rdW ((IntKind.i64.wrap (s69.1 - 8), (s69.2 ++ ([B8i ((rshU a0.a0 s69.1).toNat : Int)] : List UInt8)))) u81 hm85 hn74 (.cons Mm.m0 (.cons Mm.m1 (.cons Mm.m2 .nil))) (.of (.cons .k0 (.cons .k2 (.cons .k2 (.cons .k0 (.cons .k1 (.cons .k1 .nil))))))) .nil
        · rw [if_neg (ne_true_of_eq_false c78)] at hc73
          refine .exit ?_
          refine .thx ?_
          cases hc73
          refine .told (γ := Value) h hn74 (fun (s69 : Int × (List UInt8)) z70 => [(6, N s69.1), (5, U a0.a0), (3, pt b2 0)]) (fun (s69 : Int × (List UInt8)) z70 => [blk b2 131 [z70], blk b3 184 [(.slice (some ⟨b1, 0, none⟩) 4 4)], blk b1 30 (api_Wide.cs a0), lst 5 1 z70 (s69.2.map (fun x => [B8 x])), obj l7 (O5 .busy none), obj D6 (.deferred (some []))]) (fun (s69 : Int × (List UInt8)) z70 => []) z70 (.cons Mm.m0 (.cons Mm.m1 (.cons Mm.m2 .nil))) (.of (.cons .k0 (.cons .k0 (.cons .k0 (.cons .k0 (.cons .k0 (.cons .k0 .nil))))))) .nil (fun s69 z70 h' => ?_)
          replace h := h'
          refine .thx ?_
          refine .inb ?_
          refine .inn ?_
          refine .rnorm rfl ⟨rfl, rfl, rfl⟩ ha68 hO9 .k4 rfl ?_
          refine .inL rfl ?_
          refine .opp (P.not .t0) rfl ?_
          refine .nil ?_
          refine .then ?_
          refine .condF .t0 ?_
          refine .skip ?_
          refine .inn ?_
          refine .then ?_
          refine .reg rfl ?_
          refine .opp (P.mov .g0) rfl ?_
          refine .opp (P.bin (v := N (-1)) .t0 .k (.subc (by decide))) rfl ?_
          refine .drop .k1 ?_
          refine .opp (P.asg .t0) rfl ?_
          refine .nil ?_
          refine .then ?_
          refine .rd ?_
          refine .seq ?_
          refine .seq ?_
          refine .reg rfl ?_
          refine .opp (P.mov .g0) rfl ?_
          refine .opp (P.bin (v := Bo false) .t0 .k (BinV.geq.boolc (by decide))) rfl ?_
          refine .nil ?_
          refine .then ?_
          refine .condF .t0 ?_
          refine .exit ?_
          refine .thx ?_
          refine .thx ?_
          refine .inb ?_
          refine .rfinn ha8 hO9 .k0 rfl ?_
          refine .inn ?_
          refine .then ?_
          refine .seq ?_
          refine .reg rfl ?_
          refine .op (V.ld (v := z70) .t0 .k0 (.one isAgg131 rfl)) rfl ?_
          refine .opp (P.asg .t0) rfl ?_
          refine .nil ?_
          refine .then ?_
          refine .ret ?_
          cases h
          exact .finm z70 .k4 (.r1 rfl (.tmp .g0)) trivial (Ls.of (.cons .k3 .nil)) .nil
attribute [irreducible] blob_Wide
end Go.Sl
