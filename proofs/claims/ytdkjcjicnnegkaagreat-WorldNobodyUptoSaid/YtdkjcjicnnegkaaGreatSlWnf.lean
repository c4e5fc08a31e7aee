/- Walked code of the program, its pure functions and their contracts. -/
import Derived.Test.YtdkjcjicnnegkaaGreatSlWne
set_option linter.unusedVariables false
set_option linter.unusedSimpArgs false
namespace Go.Sl
open Go.Proofs Go.Proofs.Tryz
theorem fa_83_14 : FaV Tryz.prog 83 14 27 := .mk runUnderlying83 rfl sizeOf4 rfl rfl
theorem fa_83_15 : FaV Tryz.prog 83 15 28 := .mk runUnderlying83 rfl sizeOf4 rfl rfl
theorem eqv_23 (d : Nat) (x y : world_Setup) : EqV Tryz.prog (d + 2) 23 (Ag x.cs) (Ag y.cs) (decide (x = y)) :=
  EqV.cast (.struct (fs := [{ name := "Delay", type := 3, offset := 0, embedded := false, tag := "", pkgPath := "", byteOffset := 0 }, { name := "Skew", type := 3, offset := 1, embedded := false, tag := "", pkgPath := "", byteOffset := 8 }, { name := "Corrupt", type := 3, offset := 2, embedded := false, tag := "", pkgPath := "", byteOffset := 16 }, { name := "Room", type := 3, offset := 3, embedded := false, tag := "", pkgPath := "", byteOffset := 24 }]) (by kernel_rfl) (by kernel_rfl) (.cons rfl (.one isAgg3 rfl) (.one isAgg3 rfl) (EqV.int (by kernel_rfl)) (.cons rfl (.one isAgg3 rfl) (.one isAgg3 rfl) (EqV.int (by kernel_rfl)) (.cons rfl (.one isAgg3 rfl) (.one isAgg3 rfl) (EqV.int (by kernel_rfl)) (.cons rfl (.one isAgg3 rfl) (.one isAgg3 rfl) (EqV.int (by kernel_rfl)) .nil))))) (by cases x; cases y; rw [Bool.eq_iff_iff]; simp [world_Setup.mk.injEq, and_assoc])
theorem eq_23_eql (x y : world_Setup) : BinV Tryz.prog .eql 23 (Ag x.cs) (Ag y.cs) (Bo (decide (x = y))) := .eqv (by kernel_rfl) (eqv_23 9998 x y)
theorem eq_23_neq (x y : world_Setup) : BinV Tryz.prog .neq 23 (Ag x.cs) (Ag y.cs) (Bo (decide (x ≠ y))) := by
  have := BinV.neqv (P := Tryz.prog) (by kernel_rfl) (eqv_23 9998 x y); rw [← decide_not'] at this; exact this
noncomputable def world_World_Forged_bx (a0 : Option world_World) : Option (Bool) :=
  Option.bind (Option.bind (world_World_is_bx a0) fun r4 => if r4 = true then (Option.bind a0 fun (y8 : world_World) => some y8.forged) else (some false)) fun (y1 : Bool) => some y1
set_option maxRecDepth 20000 in
set_option maxHeartbeats 8000000 in
theorem S_world_World_Forged_bx (v00 : Value) (a0 : Option world_World) (r : Bool) (h : world_World_Forged_bx a0 = some r) :
    SpecF Tryz.prog 16 [v00] [bx world_World.bd world_World.fp v00 a0] [] (fun z : Unit => True) (fun z => Bo r) (fun z M => bx world_World.bd world_World.fp v00 a0 ::  M) (fun z M =>  M) := by
  refine .of func16 rfl ntmps16 rfl fun w0 D0 G0 => ?_
  unfold world_World_Forged_bx at h
  refine .seq <| .reg rfl <| .op0 (OpP.toV (P.asg .k)) rfl <| .nil <| .then ?_
  obtain ⟨y1, hj3, h⟩ := bnd_eq h
  refine .cutx (γ := Unit) (E1 := fun z2 => [(2, Bo y1)]) (L1 := fun z2 => [bx world_World.bd world_World.fp v00 a0]) (R1 := fun z2 => []) ?_ (fun z2 => ?_)
  · clear h
    refine .reg rfl <| .opp (P.mov .g0) rfl ?_
    obtain ⟨r4, hr5, hj3⟩ := bnd_eq hj3
    refine .opg (G.call call31 (.cons .t0 .nil) (S_world_World_is_bx v00 a0 r4 hr5) (.cons .k0 .nil) .nil (fun _ _ => rfl) (fun _ _ => rfl) rfl) rfl fun _ _ => .opp (P.mov .t0) rfl <| .split .k0 (fun c6 => ?_) (fun c6 => ?_)
    · rw [if_pos c6] at hj3
      refine .gyes rfl .g0 <| .opp (P.mov .t1) rfl <| .gyes rfl .g1 ?_
      obtain ⟨y8, hy9, hj3⟩ := bnd_eq hj3
      refine .bxo .k0 hy9 (fun _ _ _ => rfl) fun ⟨b10, u11, u12, u13, u14, u15, u16, u17, u18, u19, u20, u21⟩ hz7 => ?_
      replace hz7 : v00 = pt b10 0 := hz7
      subst hz7
      refine .opp (P.nilc .t0) rfl <| .gyes rfl .g1 <| .opp (P.fa .t0 fa_83_14 rfl) rfl <| .gyes rfl .g1 <| .op (V.ld (v := Bo y8.forged) .t0 .k0 (.one isAgg4 rfl)) rfl <| .opp (P.pickT .t1 .t0) rfl <| .opp (P.asg .t0) rfl <| .nil ?_
      cases hj3
      exact .bxc world_World.bd world_World.fp (b10, u11, u12, u13, u14, u15, u16, u17, u18, u19, u20, u21) y8 (z := (pt b10 0)) rfl (.cons .k0 (.cons .k0 (.cons .k0 (.cons .k0 (.cons .k0 (.cons .k0 (.cons .k0 (.cons .k0 (.cons .k0 (.cons .k0 (.cons .k0 (.cons .k0 .nil)))))))))))) <| .conseq .k0 (q := bx world_World.bd world_World.fp (pt b10 0) a0) (fun _ h_ => by rw [hy9]; exact h_) <| .stj () (.cons Mm.m0 .nil) (.of (.cons .k0 .nil)) .nil
    · rw [if_neg (ne_true_of_eq_false c6)] at hj3
      refine .gno rfl .g0 rfl rfl <| .gno rfl .g0 rfl rfl <| .gno rfl .g0 rfl rfl <| .gno rfl .g0 rfl rfl <| .opp (P.pickF .t0 .k) rfl <| .opp (P.asg .t0) rfl <| .nil ?_
      cases hj3
      exact .stj () (.cons Mm.m0 .nil) (.of (.cons .k0 .nil)) .nil
  · clear hj3
    refine .ret ?_
    cases h
    exact .finw () (.r1 rfl (.tmp .g0)) trivial (Ls.of (.cons .k0 .nil)) .nil
attribute [irreducible] world_World_Forged_bx
noncomputable def world_World_Clash_bx (a0 : Option world_World) : Option (Bool) :=
  Option.bind (Option.bind (world_World_is_bx a0) fun r4 => if r4 = true then (Option.bind a0 fun (y8 : world_World) => some y8.clash) else (some false)) fun (y1 : Bool) => some y1
set_option maxRecDepth 20000 in
set_option maxHeartbeats 8000000 in
theorem S_world_World_Clash_bx (v00 : Value) (a0 : Option world_World) (r : Bool) (h : world_World_Clash_bx a0 = some r) :
    SpecF Tryz.prog 17 [v00] [bx world_World.bd world_World.fp v00 a0] [] (fun z : Unit => True) (fun z => Bo r) (fun z M => bx world_World.bd world_World.fp v00 a0 ::  M) (fun z M =>  M) := by
  refine .of func17 rfl ntmps17 rfl fun w0 D0 G0 => ?_
  unfold world_World_Clash_bx at h
  refine .seq <| .reg rfl <| .op0 (OpP.toV (P.asg .k)) rfl <| .nil <| .then ?_
  obtain ⟨y1, hj3, h⟩ := bnd_eq h
  refine .cutx (γ := Unit) (E1 := fun z2 => [(2, Bo y1)]) (L1 := fun z2 => [bx world_World.bd world_World.fp v00 a0]) (R1 := fun z2 => []) ?_ (fun z2 => ?_)
  · clear h
    refine .reg rfl <| .opp (P.mov .g0) rfl ?_
    obtain ⟨r4, hr5, hj3⟩ := bnd_eq hj3
    refine .opg (G.call call31 (.cons .t0 .nil) (S_world_World_is_bx v00 a0 r4 hr5) (.cons .k0 .nil) .nil (fun _ _ => rfl) (fun _ _ => rfl) rfl) rfl fun _ _ => .opp (P.mov .t0) rfl <| .split .k0 (fun c6 => ?_) (fun c6 => ?_)
    · rw [if_pos c6] at hj3
      refine .gyes rfl .g0 <| .opp (P.mov .t1) rfl <| .gyes rfl .g1 ?_
      obtain ⟨y8, hy9, hj3⟩ := bnd_eq hj3
      refine .bxo .k0 hy9 (fun _ _ _ => rfl) fun ⟨b10, u11, u12, u13, u14, u15, u16, u17, u18, u19, u20, u21⟩ hz7 => ?_
      replace hz7 : v00 = pt b10 0 := hz7
      subst hz7
      refine .opp (P.nilc .t0) rfl <| .gyes rfl .g1 <| .opp (P.fa .t0 fa_83_15 rfl) rfl <| .gyes rfl .g1 <| .op (V.ld (v := Bo y8.clash) .t0 .k0 (.one isAgg4 rfl)) rfl <| .opp (P.pickT .t1 .t0) rfl <| .opp (P.asg .t0) rfl <| .nil ?_
      cases hj3
      exact .bxc world_World.bd world_World.fp (b10, u11, u12, u13, u14, u15, u16, u17, u18, u19, u20, u21) y8 (z := (pt b10 0)) rfl (.cons .k0 (.cons .k0 (.cons .k0 (.cons .k0 (.cons .k0 (.cons .k0 (.cons .k0 (.cons .k0 (.cons .k0 (.cons .k0 (.cons .k0 (.cons .k0 .nil)))))))))))) <| .conseq .k0 (q := bx world_World.bd world_World.fp (pt b10 0) a0) (fun _ h_ => by rw [hy9]; exact h_) <| .stj () (.cons Mm.m0 .nil) (.of (.cons .k0 .nil)) .nil
    · rw [if_neg (ne_true_of_eq_false c6)] at hj3
      refine .gno rfl .g0 rfl rfl <| .gno rfl .g0 rfl rfl <| .gno rfl .g0 rfl rfl <| .gno rfl .g0 rfl rfl <| .opp (P.pickF .t0 .k) rfl <| .opp (P.asg .t0) rfl <| .nil ?_
      cases hj3
      exact .stj () (.cons Mm.m0 .nil) (.of (.cons .k0 .nil)) .nil
  · clear hj3
    refine .ret ?_
    cases h
    exact .finw () (.r1 rfl (.tmp .g0)) trivial (Ls.of (.cons .k0 .nil)) .nil
attribute [irreducible] world_World_Clash_bx
noncomputable def world_World_Setup_bx (a0 : Option world_World) : Option (world_Setup) :=
  Option.bind (world_World_is_bx a0) fun r2 => if (!r2) = true then (some ⟨0, 0, 0, 0⟩) else (Option.bind a0 fun (y6 : world_World) => some y6.setup)
set_option maxRecDepth 20000 in
set_option maxHeartbeats 8000000 in
theorem S_world_World_Setup_bx (v00 : Value) (a0 : Option world_World) (r : world_Setup) (h : world_World_Setup_bx a0 = some r) :
    SpecF Tryz.prog 21 [v00] [bx world_World.bd world_World.fp v00 a0] [] (fun z : Unit => True) (fun z => Ag (world_Setup.cs r)) (fun z M => bx world_World.bd world_World.fp v00 a0 ::  M) (fun z M =>  M) := by
  refine .of func21 rfl ntmps21 rfl fun w0 D0 G0 => ?_
  unfold world_World_Setup_bx at h
  refine .seq <| .reg rfl <| .opx (X.alc (cs := (world_Setup.cs ⟨0, 0, 0, 0⟩)) zeroValue23 rfl) rfl fun b1 => .nil <| .then <| .seq <| .seq <| .reg rfl <| .opp (P.mov .g1) rfl ?_
  obtain ⟨r2, hr3, h⟩ := bnd_eq h
  refine .opg (G.call call31 (.cons .t0 .nil) (S_world_World_is_bx v00 a0 r2 hr3) (.cons .k1 .nil) .nil (fun _ _ => rfl) (fun _ _ => rfl) rfl) rfl fun _ _ => .opp (P.not .t0) rfl <| .nil <| .then <| .cond .t0 (fun c4 => ?_) (fun c4 => ?_)
  · rw [if_pos c4] at h
    refine .seq <| .reg rfl <| .opp (P.bld (v := Ag (world_Setup.cs ⟨0, 0, 0, 0⟩)) .nil (bld_run zeroValue23 runUnderlying23 pl_23 (by kernel_rfl))) rfl <| .opg (G.str .t0 .g0 .k1 (.mk (cs' := (world_Setup.cs ⟨0, 0, 0, 0⟩)) sizeOf23 rfl rfl rfl rfl)) rfl fun _ _ => .nil <| .then <| .ret <| .thr ?_
    cases h
    exact .finw () (.r1 rfl (.cell .g0 .k0 (.agg isAgg23 sizeOf23 rfl rfl))) trivial (Ls.of (.cons .k1 .nil)) .nil
  · rw [if_neg (ne_true_of_eq_false c4)] at h
    refine .skip <| .then <| .seq <| .reg rfl <| .opp (P.mov .t1) rfl ?_
    obtain ⟨y6, hy7, h⟩ := bnd_eq h
    refine .bxo .k0 hy7 (fun _ _ _ => rfl) fun ⟨b8, u9, u10, u11, u12, u13, u14, u15, u16, u17, u18, u19⟩ hz5 => ?_
    replace hz5 : v00 = pt b8 0 := hz5
    subst hz5
    refine .opp (P.nilc .t0) rfl <| .opp (P.fa .t0 fa_83_0 rfl) rfl <| .op (V.ld (v := Ag (world_Setup.cs y6.setup)) .t0 .k0 (.agg isAgg23 sizeOf23 rfl rfl)) rfl <| .opg (G.str .t0 .g0 .k12 (.mk (cs' := (world_Setup.cs y6.setup)) sizeOf23 rfl rfl rfl rfl)) rfl fun _ _ => .nil <| .then <| .ret ?_
    cases h
    exact .bxc world_World.bd world_World.fp (b8, u9, u10, u11, u12, u13, u14, u15, u16, u17, u18, u19) y6 (z := (pt b8 0)) rfl (.cons .k1 (.cons .k1 (.cons .k1 (.cons .k1 (.cons .k1 (.cons .k1 (.cons .k1 (.cons .k1 (.cons .k1 (.cons .k1 (.cons .k1 (.cons .k1 .nil)))))))))))) <| .conseq .k0 (q := bx world_World.bd world_World.fp (pt b8 0) a0) (fun _ h_ => by rw [hy7]; exact h_) <| .finw () (.r1 rfl (.cell .g0 .k1 (.agg isAgg23 sizeOf23 rfl rfl))) trivial (Ls.of (.cons .k0 .nil)) .nil
attribute [irreducible] world_World_Setup_bx
noncomputable def world_World_tick (a0 : world_World) : Option (world_World) :=
  Option.bind (chain_Chain_Rise_bx a0.sides.a0 1) fun r1 => Option.bind (chain_Chain_Rise_bx a0.sides.a1 1) fun r3 => Option.bind (Option.bind (Option.bind (world_World_corrupt (⟨a0.setup, ⟨r1, r3⟩, a0.clients, a0.routers, a0.relay, a0.mail, IntKind.i64.wrap (a0.now + 1), a0.seen, a0.late, a0.since, a0.told, a0.keys, a0.digests, a0.asked, a0.forged, a0.clash⟩ : world_World) 0) fun r11 => if (!r11) = true then (some (decide ((IntKind.i64.wrap ((IntKind.i64.wrap (a0.now + 1)) - a0.seen.a0)) > a0.setup.Delay))) else (some false)) fun (y8 : Bool) => if y8 = true then (some ⟨true, a0.late.a1, a0.late.a2, a0.late.a3⟩) else (some a0.late)) fun (y5 : A4_bool) => Option.bind (Option.bind (Option.bind (world_World_corrupt (⟨a0.setup, ⟨r1, r3⟩, a0.clients, a0.routers, a0.relay, a0.mail, IntKind.i64.wrap (a0.now + 1), a0.seen, y5, a0.since, a0.told, a0.keys, a0.digests, a0.asked, a0.forged, a0.clash⟩ : world_World) 1) fun r21 => if (!r21) = true then (some (decide ((IntKind.i64.wrap ((IntKind.i64.wrap (a0.now + 1)) - a0.seen.a1)) > a0.setup.Delay))) else (some false)) fun (y18 : Bool) => if y18 = true then (some ⟨y5.a0, true, y5.a2, y5.a3⟩) else (some y5)) fun (y15 : A4_bool) => Option.bind (Option.bind (Option.bind (world_World_corrupt (⟨a0.setup, ⟨r1, r3⟩, a0.clients, a0.routers, a0.relay, a0.mail, IntKind.i64.wrap (a0.now + 1), a0.seen, y15, a0.since, a0.told, a0.keys, a0.digests, a0.asked, a0.forged, a0.clash⟩ : world_World) 2) fun r31 => if (!r31) = true then (some (decide ((IntKind.i64.wrap ((IntKind.i64.wrap (a0.now + 1)) - a0.seen.a2)) > a0.setup.Delay))) else (some false)) fun (y28 : Bool) => if y28 = true then (some ⟨y15.a0, y15.a1, true, y15.a3⟩) else (some y15)) fun (y25 : A4_bool) => Option.bind (Option.bind (Option.bind (world_World_corrupt (⟨a0.setup, ⟨r1, r3⟩, a0.clients, a0.routers, a0.relay, a0.mail, IntKind.i64.wrap (a0.now + 1), a0.seen, y25, a0.since, a0.told, a0.keys, a0.digests, a0.asked, a0.forged, a0.clash⟩ : world_World) 3) fun r41 => if (!r41) = true then (some (decide ((IntKind.i64.wrap ((IntKind.i64.wrap (a0.now + 1)) - a0.seen.a3)) > a0.setup.Delay))) else (some false)) fun (y38 : Bool) => if y38 = true then (some ⟨y25.a0, y25.a1, y25.a2, true⟩) else (some y25)) fun (y35 : A4_bool) => Option.bind a0.since fun (y46 : List (world_place × Int)) => grd (y46.isEmpty = true) <| some ((⟨a0.setup, ⟨r1, r3⟩, a0.clients, a0.routers, a0.relay, a0.mail, IntKind.i64.wrap (a0.now + 1), a0.seen, y35, (some ([])), a0.told, a0.keys, a0.digests, a0.asked, a0.forged, a0.clash⟩ : world_World))
set_option maxRecDepth 20000 in
set_option maxHeartbeats 8000000 in
theorem S_world_World_tick (b00 : Nat) (a0 : world_World) (z00a z00b z00c z00d z00e z00f z00g z00h z00i z00j z00k : Value) (r : world_World) (h : world_World_tick a0 = some r) :
    SpecF Tryz.prog 48 [pt b00 0] [blk b00 83 (world_World.cs a0 z00a z00b z00c z00d z00e z00f z00g z00h z00i z00j z00k), bx chain_Chain.bd chain_Chain.fp z00a a0.sides.a0, bx chain_Chain.bd chain_Chain.fp z00b a0.sides.a1, bx client_Client.bd client_Client.fp z00c a0.clients.a0, bx client_Client.bd client_Client.fp z00d a0.clients.a1, bx router_Router.bd router_Router.fp z00e a0.routers.a0, bx router_Router.bd router_Router.fp z00f a0.routers.a1, bx relay_Relay.bd relay_Relay.fp z00g a0.relay, mb (fun (x : world_place) => Ag x.cs) (fun (x : Int) => N x) z00h a0.since, mb (fun (x : world_word) => Ag x.cs) (fun (x : Bool) => Bo x) z00i a0.told, mb (fun (x : ByteArray) => Value.string x) (fun (x : api_Inv) => Ag x.cs) z00j a0.keys, mb (fun (x : ByteArray) => Value.string x) (fun (x : world_data) => Ag x.cs) z00k a0.digests] [] (fun z : Value => True) (fun z => Tu []) (fun z M => blk b00 83 (world_World.cs r z00a z00b z00c z00d z00e z00f z00g z z00i z00j z00k) :: bx chain_Chain.bd chain_Chain.fp z00a r.sides.a0 :: bx chain_Chain.bd chain_Chain.fp z00b r.sides.a1 :: bx client_Client.bd client_Client.fp z00c r.clients.a0 :: bx client_Client.bd client_Client.fp z00d r.clients.a1 :: bx router_Router.bd router_Router.fp z00e r.routers.a0 :: bx router_Router.bd router_Router.fp z00f r.routers.a1 :: bx relay_Relay.bd relay_Relay.fp z00g r.relay :: mb (fun (x : world_place) => Ag x.cs) (fun (x : Int) => N x) z r.since :: mb (fun (x : world_word) => Ag x.cs) (fun (x : Bool) => Bo x) z00i r.told :: mb (fun (x : ByteArray) => Value.string x) (fun (x : api_Inv) => Ag x.cs) z00j r.keys :: mb (fun (x : ByteArray) => Value.string x) (fun (x : world_data) => Ag x.cs) z00k r.digests ::  M) (fun z M =>  M) := by
  refine .of func48 rfl ntmps48 rfl fun w0 D0 G0 => ?_
  unfold world_World_tick at h
  refine .seq <| .reg rfl <| .opp (P.mov .g0) rfl <| .opp (P.nilc .g0) rfl <| .opp (P.fa .t0 fa_83_6 rfl) rfl <| .op (V.ld (v := N a0.now) .t0 .k0 (.one isAgg3 rfl)) rfl <| .opp (P.bin .t0 .k .add) rfl <| .opp (P.nilc .t1) rfl <| .opp (P.fa .t0 fa_83_6 rfl) rfl <| .opg (G.str .t1 .t0 .k0 (.mk (cs' := (world_World.cs ⟨a0.setup, a0.sides, a0.clients, a0.routers, a0.relay, a0.mail, IntKind.i64.wrap (a0.now + 1), a0.seen, a0.late, a0.since, a0.told, a0.keys, a0.digests, a0.asked, a0.forged, a0.clash⟩ z00a z00b z00c z00d z00e z00f z00g z00h z00i z00j z00k)) sizeOf3 rfl rfl rfl rfl)) rfl fun _ _ => .nil <| .then ?_
  refine .seq <| .seq <| .reg rfl <| .opp (P.mov .g0) rfl <| .opp (P.nilc .t0) rfl <| .opp (P.fa .t0 fa_83_1 rfl) rfl <| .op (V.ld (v := Ag (A2_chain_Chain.cs a0.sides z00a z00b)) .t0 .k0 (.agg isAgg71 sizeOf71 rfl rfl)) rfl <| .opp (P.mov .k) rfl <| .nil <| .then <| .block <| .rounds 3 ?_
  refine .rd <| .seq <| .reg rfl <| .opp (P.bin (v := Bo true) .g0 .k (BinV.lss.boolc (by decide))) rfl <| .nil <| .then <| .seq <| .condT .t0 <| .skip <| .then <| .seq <| .block ?_
  refine .seq <| .reg rfl <| .opp (P.idx (i := 0) (v := z00a) .g1 .g0 rfl runUnderlying71 sizeOf30 (by decide) (.one isAgg30 rfl)) rfl <| .opp (P.asg .t0) rfl <| .nil <| .then <| .reg rfl <| .opp (P.mov .t0) rfl ?_
  obtain ⟨r1, hr2, h⟩ := bnd_eq h
  refine .opg (G.call call77 (.cons .t0 (.cons .k .nil)) (S_chain_Chain_Rise_bx z00a a0.sides.a0 1 r1 hr2) (.cons .k1 .nil) .nil (fun _ _ => rfl) (fun _ _ => rfl) rfl) rfl fun _ _ => .drop .k0 <| .nil <| .inn <| .then <| .reg rfl <| .opp (P.bin (v := N 1) .g0 .k (.addc (by decide))) rfl <| .drop .k1 <| .opp (P.mov .t0) rfl <| .nil <| .then <| .rd ?_
  refine .seq <| .reg rfl <| .opp (P.bin (v := Bo true) .g0 .k (BinV.lss.boolc (by decide))) rfl <| .nil <| .then <| .seq <| .condT .t0 <| .skip <| .then <| .seq <| .block <| .seq ?_
  refine .reg rfl <| .opp (P.idx (i := 1) (v := z00b) .g1 .g0 rfl runUnderlying71 sizeOf30 (by decide) (.one isAgg30 rfl)) rfl <| .opp (P.asg .t0) rfl <| .nil <| .then <| .reg rfl <| .opp (P.mov .t0) rfl ?_
  obtain ⟨r3, hr4, h⟩ := bnd_eq h
  refine .opg (G.call call77 (.cons .t0 (.cons .k .nil)) (S_chain_Chain_Rise_bx z00b a0.sides.a1 1 r3 hr4) (.cons .k2 .nil) .nil (fun _ _ => rfl) (fun _ _ => rfl) rfl) rfl fun _ _ => .drop .k0 <| .nil <| .inn <| .then <| .reg rfl <| .opp (P.bin (v := N 2) .g0 .k (.addc (by decide))) rfl <| .drop .k1 <| .opp (P.mov .t0) rfl <| .nil <| .then <| .rd ?_
  refine .seq <| .reg rfl <| .opp (P.bin (v := Bo false) .g0 .k (BinV.lss.boolc (by decide))) rfl <| .nil <| .then <| .seq <| .condF .t0 <| .exit <| .thx <| .thx <| .inb <| .then ?_
  refine .seq <| .seq <| .reg rfl <| .opp (P.mov .k) rfl <| .nil <| .then <| .block <| .rounds 5 <| .rd <| .seq <| .reg rfl <| .opp (P.bin (v := Bo true) .g0 .k (BinV.lss.boolc (by decide))) rfl ?_
  refine .nil <| .then <| .seq <| .condT .t0 <| .skip <| .then ?_
  obtain ⟨y5, hj7, h⟩ := bnd_eq h
  refine .cutx (γ := Unit) (E1 := fun z6 => [(24, N 0), (0, pt b00 0)]) (L1 := fun z6 => [blk b00 83 (world_World.cs ⟨a0.setup, ⟨r1, r3⟩, a0.clients, a0.routers, a0.relay, a0.mail, IntKind.i64.wrap (a0.now + 1), a0.seen, y5, a0.since, a0.told, a0.keys, a0.digests, a0.asked, a0.forged, a0.clash⟩ z00a z00b z00c z00d z00e z00f z00g z00h z00i z00j z00k), bx chain_Chain.bd chain_Chain.fp z00a r1, bx chain_Chain.bd chain_Chain.fp z00b r3, bx client_Client.bd client_Client.fp z00c a0.clients.a0, bx client_Client.bd client_Client.fp z00d a0.clients.a1, bx router_Router.bd router_Router.fp z00e a0.routers.a0, bx router_Router.bd router_Router.fp z00f a0.routers.a1, bx relay_Relay.bd relay_Relay.fp z00g a0.relay, mb (fun (x : world_place) => Ag x.cs) (fun (x : Int) => N x) z00h a0.since, mb (fun (x : world_word) => Ag x.cs) (fun (x : Bool) => Bo x) z00i a0.told, mb (fun (x : ByteArray) => Value.string x) (fun (x : api_Inv) => Ag x.cs) z00j a0.keys, mb (fun (x : ByteArray) => Value.string x) (fun (x : world_data) => Ag x.cs) z00k a0.digests]) (R1 := fun z6 => []) ?_ (fun z6 => ?_)
  · clear h
    refine .block <| .seq <| .reg rfl <| .opp (P.mov .g0) rfl <| .opp (P.asg .t0) rfl <| .nil <| .then ?_
    obtain ⟨y8, hj10, hj7⟩ := bnd_eq hj7
    refine .cutx (γ := Unit) (E1 := fun z9 => [(49, Bo y8), (4, N 0), (24, N 0), (0, pt b00 0)]) (L1 := fun z9 => [blk b00 83 (world_World.cs ⟨a0.setup, ⟨r1, r3⟩, a0.clients, a0.routers, a0.relay, a0.mail, IntKind.i64.wrap (a0.now + 1), a0.seen, a0.late, a0.since, a0.told, a0.keys, a0.digests, a0.asked, a0.forged, a0.clash⟩ z00a z00b z00c z00d z00e z00f z00g z00h z00i z00j z00k), bx chain_Chain.bd chain_Chain.fp z00a r1, bx chain_Chain.bd chain_Chain.fp z00b r3, bx client_Client.bd client_Client.fp z00c a0.clients.a0, bx client_Client.bd client_Client.fp z00d a0.clients.a1, bx router_Router.bd router_Router.fp z00e a0.routers.a0, bx router_Router.bd router_Router.fp z00f a0.routers.a1, bx relay_Relay.bd relay_Relay.fp z00g a0.relay, mb (fun (x : world_place) => Ag x.cs) (fun (x : Int) => N x) z00h a0.since, mb (fun (x : world_word) => Ag x.cs) (fun (x : Bool) => Bo x) z00i a0.told, mb (fun (x : ByteArray) => Value.string x) (fun (x : api_Inv) => Ag x.cs) z00j a0.keys, mb (fun (x : ByteArray) => Value.string x) (fun (x : world_data) => Ag x.cs) z00k a0.digests]) (R1 := fun z9 => []) ?_ (fun z9 => ?_)
    · clear hj7
      refine .draw 23 (.on 0 .pu (.on 1 .pu (.on 2 .go (.on 3 .pu (.on 4 .pu (.on 5 .pu (.on 6 .pu (.on 7 .pu (.on 9 .pu (.on 10 .pu (.on 11 .pu (.on 12 .pu (.on 13 .pu (.on 16 .pu (.on 17 .pu (.on 18 .pu (.on 19 .pu (.on 8 .ld (.on 14 .ld (.on 15 .pu (.on 20 .ld (.on 21 .pu (.on 22 .pu .nl))))))))))))))))))))))) follows_mixed (.thn (.inb (.thn (.thn (.inb (.thn .body)))))) (by kernel_rfl) <| .dpu rfl (.n rfl) (P.mov .g4) rfl rfl <| .dpu rfl (.n rfl) (P.mov .g1) rfl rfl ?_
      obtain ⟨r11, hr12, hj10⟩ := bnd_eq hj10
      refine .dgo rfl (.n rfl) (G.call call39 (.cons .t1 (.cons .t0 .nil)) (S_world_World_corrupt b00 (⟨a0.setup, ⟨r1, r3⟩, a0.clients, a0.routers, a0.relay, a0.mail, IntKind.i64.wrap (a0.now + 1), a0.seen, a0.late, a0.since, a0.told, a0.keys, a0.digests, a0.asked, a0.forged, a0.clash⟩ : world_World) z00a z00b z00c z00d z00e z00f z00g z00h z00i z00j z00k 0 r11 hr12) (.cons .k2 (.cons .k1 (.cons .k0 (.cons .k0 (.cons .k0 (.cons .k0 (.cons .k0 (.cons .k0 (.cons .k0 (.cons .k0 (.cons .k0 (.cons .k0 .nil)))))))))))) .nil (fun _ _ => rfl) (fun _ _ => rfl) rfl) (.inr fun _ _ _ h => (h.imp (Ls.of (.cons .k2 (.cons .k1 (.cons .k0 (.cons .k0 (.cons .k0 (.cons .k0 (.cons .k0 (.cons .k0 (.cons .k0 (.cons .k0 (.cons .k0 (.cons .k0 .nil)))))))))))))).ro Rs.nil) fun _ _ => .dpu rfl (.n rfl) (P.not .t0) rfl rfl <| .dpu rfl (.n rfl) (P.mov .t0) rfl rfl <| .split .k0 (fun c13 => ?_) (fun c13 => ?_)
      · rw [if_pos c13] at hj10
        refine .dpu rfl (.g rfl rfl .g0 rfl) (P.mov .g5) rfl rfl <| .dpu rfl (.g rfl rfl .g1 rfl) (P.nilc .t0) rfl rfl <| .dpu rfl (.g rfl rfl .g1 rfl) (P.fa .t0 fa_83_6 rfl) rfl rfl <| .dpu rfl (.g rfl rfl .g1 rfl) (P.mov .g6) rfl rfl <| .dpu rfl (.g rfl rfl .g2 rfl) (P.mov .g3) rfl rfl <| .dpu rfl (.g rfl rfl .g3 rfl) (P.nilc .t1) rfl rfl <| .dpu rfl (.g rfl rfl .g3 rfl) (P.fa .t0 fa_83_7 rfl) rfl rfl <| .dpu rfl (.g rfl rfl .g3 rfl) (P.iac (i := 0) .t1 rfl .t0 runUnderlying75 sizeOf3 rfl rfl) rfl rfl <| .dpu rfl (.g rfl rfl .g2 rfl) (P.mov .g7) rfl rfl <| .dpu rfl (.g rfl rfl .g3 rfl) (P.nilc .t0) rfl rfl <| .dpu rfl (.g rfl rfl .g3 rfl) (P.fa .t0 fa_83_0 rfl) rfl rfl <| .dpu rfl (.g rfl rfl .g3 rfl) (P.fa .t0 fa_23_0 rfl) rfl rfl ?_
        refine .dld rfl (.g rfl rfl .g3 rfl) (V.ld (v := N (IntKind.i64.wrap (a0.now + 1))) .t2 .k2 (.one isAgg3 rfl)) (fun _ h => (h.imp (Ls.of (.cons .k2 (.cons .k1 (.cons .k0 (.cons .k0 (.cons .k0 (.cons .k0 (.cons .k0 (.cons .k0 (.cons .k0 (.cons .k0 (.cons .k0 (.cons .k0 .nil)))))))))))))).ro Rs.nil) rfl rfl <| .dld rfl (.g rfl rfl .g3 rfl) (V.ld (v := N a0.seen.a0) .t2 .k2 (.one isAgg3 rfl)) (fun _ h => (h.imp (Ls.of (.cons .k2 (.cons .k1 (.cons .k0 (.cons .k0 (.cons .k0 (.cons .k0 (.cons .k0 (.cons .k0 (.cons .k0 (.cons .k0 (.cons .k0 (.cons .k0 .nil)))))))))))))).ro Rs.nil) rfl rfl <| .dpu rfl (.g rfl rfl .g3 rfl) (P.bin .t1 .t0 .sub) rfl rfl <| .dld rfl (.g rfl rfl .g2 rfl) (V.ld (v := N a0.setup.Delay) .t1 .k2 (.one isAgg3 rfl)) (fun _ h => (h.imp (Ls.of (.cons .k2 (.cons .k1 (.cons .k0 (.cons .k0 (.cons .k0 (.cons .k0 (.cons .k0 (.cons .k0 (.cons .k0 (.cons .k0 (.cons .k0 (.cons .k0 .nil)))))))))))))).ro Rs.nil) rfl rfl <| .dpu rfl (.g rfl rfl .g2 rfl) (P.bin .t1 .t0 .gtr) rfl rfl <| .dpu rfl (.n rfl) (P.pickT .t1 .t0) rfl rfl <| .dnil ?_
        cases hj10
        exact .stj () (.cons Mm.m0 (.cons Mm.m1 (.cons Mm.m2 (.cons Mm.m5 .nil)))) (.of (.cons .k0 (.cons .k0 (.cons .k0 (.cons .k0 (.cons .k0 (.cons .k0 (.cons .k0 (.cons .k0 (.cons .k0 (.cons .k0 (.cons .k0 (.cons .k0 .nil))))))))))))) .nil
      · rw [if_neg (ne_true_of_eq_false c13)] at hj10
        refine .dsk rfl (.g rfl rfl .g0 rfl) rfl rfl <| .dsk rfl (.g rfl rfl .g0 rfl) rfl rfl <| .dsk rfl (.g rfl rfl .g0 rfl) rfl rfl <| .dsk rfl (.g rfl rfl .g0 rfl) rfl rfl <| .dsk rfl (.g rfl rfl .g0 rfl) rfl rfl <| .dsk rfl (.g rfl rfl .g0 rfl) rfl rfl <| .dsk rfl (.g rfl rfl .g0 rfl) rfl rfl <| .dsk rfl (.g rfl rfl .g0 rfl) rfl rfl <| .dsk rfl (.g rfl rfl .g0 rfl) rfl rfl <| .dsk rfl (.g rfl rfl .g0 rfl) rfl rfl <| .dsk rfl (.g rfl rfl .g0 rfl) rfl rfl <| .dsk rfl (.g rfl rfl .g0 rfl) rfl rfl ?_
        refine .dskl rfl (.g rfl rfl .g0 rfl) (fun _ h => (h.imp (Ls.of (.cons .k2 (.cons .k1 (.cons .k0 (.cons .k0 (.cons .k0 (.cons .k0 (.cons .k0 (.cons .k0 (.cons .k0 (.cons .k0 (.cons .k0 (.cons .k0 .nil)))))))))))))).ro Rs.nil) rfl rfl <| .dskl rfl (.g rfl rfl .g0 rfl) (fun _ h => (h.imp (Ls.of (.cons .k2 (.cons .k1 (.cons .k0 (.cons .k0 (.cons .k0 (.cons .k0 (.cons .k0 (.cons .k0 (.cons .k0 (.cons .k0 (.cons .k0 (.cons .k0 .nil)))))))))))))).ro Rs.nil) rfl rfl <| .dsk rfl (.g rfl rfl .g0 rfl) rfl rfl <| .dskl rfl (.g rfl rfl .g0 rfl) (fun _ h => (h.imp (Ls.of (.cons .k2 (.cons .k1 (.cons .k0 (.cons .k0 (.cons .k0 (.cons .k0 (.cons .k0 (.cons .k0 (.cons .k0 (.cons .k0 (.cons .k0 (.cons .k0 .nil)))))))))))))).ro Rs.nil) rfl rfl <| .dsk rfl (.g rfl rfl .g0 rfl) rfl rfl <| .dpu rfl (.n rfl) (P.pickF .t0 .k) rfl rfl <| .dnil ?_
        cases hj10
        exact .stj () (.cons Mm.m0 (.cons Mm.m1 (.cons Mm.m2 (.cons Mm.m5 .nil)))) (.of (.cons .k0 (.cons .k0 (.cons .k0 (.cons .k0 (.cons .k0 (.cons .k0 (.cons .k0 (.cons .k0 (.cons .k0 (.cons .k0 (.cons .k0 (.cons .k0 .nil))))))))))))) .nil
    · clear hj10
      refine .cond .t0 (fun c14 => ?_) (fun c14 => ?_)
      · rw [if_pos c14] at hj7
        refine .reg rfl <| .opp (P.mov .g2) rfl <| .opp (P.mov .t1) rfl <| .opp (P.nilc .t1) rfl <| .opp (P.fa .t0 fa_83_8 rfl) rfl <| .opp (P.iac (i := 0) .t1 rfl .t0 runUnderlying76 sizeOf4 rfl rfl) rfl <| .opg (G.str .k .t0 .k0 (.mk (cs' := (world_World.cs ⟨a0.setup, ⟨r1, r3⟩, a0.clients, a0.routers, a0.relay, a0.mail, IntKind.i64.wrap (a0.now + 1), a0.seen, ⟨true, a0.late.a1, a0.late.a2, a0.late.a3⟩, a0.since, a0.told, a0.keys, a0.digests, a0.asked, a0.forged, a0.clash⟩ z00a z00b z00c z00d z00e z00f z00g z00h z00i z00j z00k)) sizeOf4 rfl rfl rfl rfl)) rfl fun _ _ => .nil <| .inn ?_
        cases hj7
        exact .stj () (.cons Mm.m0 (.cons Mm.m1 .nil)) (.of (.cons .k0 (.cons .k0 (.cons .k0 (.cons .k0 (.cons .k0 (.cons .k0 (.cons .k0 (.cons .k0 (.cons .k0 (.cons .k0 (.cons .k0 (.cons .k0 .nil))))))))))))) .nil
      · rw [if_neg (ne_true_of_eq_false c14)] at hj7
        refine .skip <| .inn ?_
        cases hj7
        exact .stj () (.cons Mm.m1 (.cons Mm.m2 .nil)) (.of (.cons .k0 (.cons .k0 (.cons .k0 (.cons .k0 (.cons .k0 (.cons .k0 (.cons .k0 (.cons .k0 (.cons .k0 (.cons .k0 (.cons .k0 (.cons .k0 .nil))))))))))))) .nil
  · clear hj7
    refine .reg rfl <| .opp (P.bin (v := N 1) .g0 .k (.addc (by decide))) rfl <| .drop .k1 <| .opp (P.mov .t0) rfl <| .nil <| .then <| .rd <| .seq <| .reg rfl <| .opp (P.bin (v := Bo true) .g0 .k (BinV.lss.boolc (by decide))) rfl <| .nil <| .then ?_
    refine .seq <| .condT .t0 <| .skip <| .then ?_
    obtain ⟨y15, hj17, h⟩ := bnd_eq h
    refine .cutx (γ := Unit) (E1 := fun z16 => [(24, N 1), (0, pt b00 0)]) (L1 := fun z16 => [blk b00 83 (world_World.cs ⟨a0.setup, ⟨r1, r3⟩, a0.clients, a0.routers, a0.relay, a0.mail, IntKind.i64.wrap (a0.now + 1), a0.seen, y15, a0.since, a0.told, a0.keys, a0.digests, a0.asked, a0.forged, a0.clash⟩ z00a z00b z00c z00d z00e z00f z00g z00h z00i z00j z00k), bx chain_Chain.bd chain_Chain.fp z00a r1, bx chain_Chain.bd chain_Chain.fp z00b r3, bx client_Client.bd client_Client.fp z00c a0.clients.a0, bx client_Client.bd client_Client.fp z00d a0.clients.a1, bx router_Router.bd router_Router.fp z00e a0.routers.a0, bx router_Router.bd router_Router.fp z00f a0.routers.a1, bx relay_Relay.bd relay_Relay.fp z00g a0.relay, mb (fun (x : world_place) => Ag x.cs) (fun (x : Int) => N x) z00h a0.since, mb (fun (x : world_word) => Ag x.cs) (fun (x : Bool) => Bo x) z00i a0.told, mb (fun (x : ByteArray) => Value.string x) (fun (x : api_Inv) => Ag x.cs) z00j a0.keys, mb (fun (x : ByteArray) => Value.string x) (fun (x : world_data) => Ag x.cs) z00k a0.digests]) (R1 := fun z16 => []) ?_ (fun z16 => ?_)
    · clear h
      refine .block <| .seq <| .reg rfl <| .opp (P.mov .g0) rfl <| .opp (P.asg .t0) rfl <| .nil <| .then ?_
      obtain ⟨y18, hj20, hj17⟩ := bnd_eq hj17
      refine .cutx (γ := Unit) (E1 := fun z19 => [(49, Bo y18), (4, N 1), (24, N 1), (0, pt b00 0)]) (L1 := fun z19 => [blk b00 83 (world_World.cs ⟨a0.setup, ⟨r1, r3⟩, a0.clients, a0.routers, a0.relay, a0.mail, IntKind.i64.wrap (a0.now + 1), a0.seen, y5, a0.since, a0.told, a0.keys, a0.digests, a0.asked, a0.forged, a0.clash⟩ z00a z00b z00c z00d z00e z00f z00g z00h z00i z00j z00k), bx chain_Chain.bd chain_Chain.fp z00a r1, bx chain_Chain.bd chain_Chain.fp z00b r3, bx client_Client.bd client_Client.fp z00c a0.clients.a0, bx client_Client.bd client_Client.fp z00d a0.clients.a1, bx router_Router.bd router_Router.fp z00e a0.routers.a0, bx router_Router.bd router_Router.fp z00f a0.routers.a1, bx relay_Relay.bd relay_Relay.fp z00g a0.relay, mb (fun (x : world_place) => Ag x.cs) (fun (x : Int) => N x) z00h a0.since, mb (fun (x : world_word) => Ag x.cs) (fun (x : Bool) => Bo x) z00i a0.told, mb (fun (x : ByteArray) => Value.string x) (fun (x : api_Inv) => Ag x.cs) z00j a0.keys, mb (fun (x : ByteArray) => Value.string x) (fun (x : world_data) => Ag x.cs) z00k a0.digests]) (R1 := fun z19 => []) ?_ (fun z19 => ?_)
      · clear hj17
        refine .draw 23 (.on 0 .pu (.on 1 .pu (.on 2 .go (.on 3 .pu (.on 4 .pu (.on 5 .pu (.on 6 .pu (.on 7 .pu (.on 9 .pu (.on 10 .pu (.on 11 .pu (.on 12 .pu (.on 13 .pu (.on 16 .pu (.on 17 .pu (.on 18 .pu (.on 19 .pu (.on 8 .ld (.on 14 .ld (.on 15 .pu (.on 20 .ld (.on 21 .pu (.on 22 .pu .nl))))))))))))))))))))))) follows_mixed (.thn (.inb (.thn (.thn (.inb (.thn .body)))))) (by kernel_rfl) <| .dpu rfl (.n rfl) (P.mov .g2) rfl rfl <| .dpu rfl (.n rfl) (P.mov .g1) rfl rfl ?_
        obtain ⟨r21, hr22, hj20⟩ := bnd_eq hj20
        refine .dgo rfl (.n rfl) (G.call call39 (.cons .t1 (.cons .t0 .nil)) (S_world_World_corrupt b00 (⟨a0.setup, ⟨r1, r3⟩, a0.clients, a0.routers, a0.relay, a0.mail, IntKind.i64.wrap (a0.now + 1), a0.seen, y5, a0.since, a0.told, a0.keys, a0.digests, a0.asked, a0.forged, a0.clash⟩ : world_World) z00a z00b z00c z00d z00e z00f z00g z00h z00i z00j z00k 1 r21 hr22) (.cons .k0 (.cons .k0 (.cons .k0 (.cons .k0 (.cons .k0 (.cons .k0 (.cons .k0 (.cons .k0 (.cons .k0 (.cons .k0 (.cons .k0 (.cons .k0 .nil)))))))))))) .nil (fun _ _ => rfl) (fun _ _ => rfl) rfl) (.inr fun _ _ _ h => h) fun _ _ => .dpu rfl (.n rfl) (P.not .t0) rfl rfl <| .dpu rfl (.n rfl) (P.mov .t0) rfl rfl <| .split .k0 (fun c23 => ?_) (fun c23 => ?_)
        · rw [if_pos c23] at hj20
          refine .dpu rfl (.g rfl rfl .g0 rfl) (P.mov .g3) rfl rfl <| .dpu rfl (.g rfl rfl .g1 rfl) (P.nilc .t0) rfl rfl <| .dpu rfl (.g rfl rfl .g1 rfl) (P.fa .t0 fa_83_6 rfl) rfl rfl <| .dpu rfl (.g rfl rfl .g1 rfl) (P.mov .g4) rfl rfl <| .dpu rfl (.g rfl rfl .g2 rfl) (P.mov .g3) rfl rfl <| .dpu rfl (.g rfl rfl .g3 rfl) (P.nilc .t1) rfl rfl <| .dpu rfl (.g rfl rfl .g3 rfl) (P.fa .t0 fa_83_7 rfl) rfl rfl <| .dpu rfl (.g rfl rfl .g3 rfl) (P.iac (i := 1) .t1 rfl .t0 runUnderlying75 sizeOf3 rfl rfl) rfl rfl <| .dpu rfl (.g rfl rfl .g2 rfl) (P.mov .g5) rfl rfl <| .dpu rfl (.g rfl rfl .g3 rfl) (P.nilc .t0) rfl rfl <| .dpu rfl (.g rfl rfl .g3 rfl) (P.fa .t0 fa_83_0 rfl) rfl rfl <| .dpu rfl (.g rfl rfl .g3 rfl) (P.fa .t0 fa_23_0 rfl) rfl rfl ?_
          refine .dld rfl (.g rfl rfl .g3 rfl) (V.ld (v := N (IntKind.i64.wrap (a0.now + 1))) .t2 .k0 (.one isAgg3 rfl)) (fun _ h => h) rfl rfl <| .dld rfl (.g rfl rfl .g3 rfl) (V.ld (v := N a0.seen.a1) .t2 .k0 (.one isAgg3 rfl)) (fun _ h => h) rfl rfl <| .dpu rfl (.g rfl rfl .g3 rfl) (P.bin .t1 .t0 .sub) rfl rfl <| .dld rfl (.g rfl rfl .g2 rfl) (V.ld (v := N a0.setup.Delay) .t1 .k0 (.one isAgg3 rfl)) (fun _ h => h) rfl rfl <| .dpu rfl (.g rfl rfl .g2 rfl) (P.bin .t1 .t0 .gtr) rfl rfl <| .dpu rfl (.n rfl) (P.pickT .t1 .t0) rfl rfl <| .dnil ?_
          cases hj20
          exact .stj () (.cons Mm.m0 (.cons Mm.m1 (.cons Mm.m2 (.cons Mm.m3 .nil)))) (.of (.cons .k0 (.cons .k0 (.cons .k0 (.cons .k0 (.cons .k0 (.cons .k0 (.cons .k0 (.cons .k0 (.cons .k0 (.cons .k0 (.cons .k0 (.cons .k0 .nil))))))))))))) .nil
        · rw [if_neg (ne_true_of_eq_false c23)] at hj20
          refine .dsk rfl (.g rfl rfl .g0 rfl) rfl rfl <| .dsk rfl (.g rfl rfl .g0 rfl) rfl rfl <| .dsk rfl (.g rfl rfl .g0 rfl) rfl rfl <| .dsk rfl (.g rfl rfl .g0 rfl) rfl rfl <| .dsk rfl (.g rfl rfl .g0 rfl) rfl rfl <| .dsk rfl (.g rfl rfl .g0 rfl) rfl rfl <| .dsk rfl (.g rfl rfl .g0 rfl) rfl rfl <| .dsk rfl (.g rfl rfl .g0 rfl) rfl rfl <| .dsk rfl (.g rfl rfl .g0 rfl) rfl rfl <| .dsk rfl (.g rfl rfl .g0 rfl) rfl rfl <| .dsk rfl (.g rfl rfl .g0 rfl) rfl rfl <| .dsk rfl (.g rfl rfl .g0 rfl) rfl rfl ?_
          refine .dskl rfl (.g rfl rfl .g0 rfl) (fun _ h => h) rfl rfl <| .dskl rfl (.g rfl rfl .g0 rfl) (fun _ h => h) rfl rfl <| .dsk rfl (.g rfl rfl .g0 rfl) rfl rfl <| .dskl rfl (.g rfl rfl .g0 rfl) (fun _ h => h) rfl rfl <| .dsk rfl (.g rfl rfl .g0 rfl) rfl rfl <| .dpu rfl (.n rfl) (P.pickF .t0 .k) rfl rfl <| .dnil ?_
          cases hj20
          exact .stj () (.cons Mm.m0 (.cons Mm.m1 (.cons Mm.m2 (.cons Mm.m3 .nil)))) (.of (.cons .k0 (.cons .k0 (.cons .k0 (.cons .k0 (.cons .k0 (.cons .k0 (.cons .k0 (.cons .k0 (.cons .k0 (.cons .k0 (.cons .k0 (.cons .k0 .nil))))))))))))) .nil
      · clear hj20
        refine .cond .t0 (fun c24 => ?_) (fun c24 => ?_)
        · rw [if_pos c24] at hj17
          refine .reg rfl <| .opp (P.mov .g2) rfl <| .opp (P.mov .t1) rfl <| .opp (P.nilc .t1) rfl <| .opp (P.fa .t0 fa_83_8 rfl) rfl <| .opp (P.iac (i := 1) .t1 rfl .t0 runUnderlying76 sizeOf4 rfl rfl) rfl <| .opg (G.str .k .t0 .k0 (.mk (cs' := (world_World.cs ⟨a0.setup, ⟨r1, r3⟩, a0.clients, a0.routers, a0.relay, a0.mail, IntKind.i64.wrap (a0.now + 1), a0.seen, ⟨y5.a0, true, y5.a2, y5.a3⟩, a0.since, a0.told, a0.keys, a0.digests, a0.asked, a0.forged, a0.clash⟩ z00a z00b z00c z00d z00e z00f z00g z00h z00i z00j z00k)) sizeOf4 rfl rfl rfl rfl)) rfl fun _ _ => .nil <| .inn ?_
          cases hj17
          exact .stj () (.cons Mm.m0 (.cons Mm.m1 .nil)) (.of (.cons .k0 (.cons .k0 (.cons .k0 (.cons .k0 (.cons .k0 (.cons .k0 (.cons .k0 (.cons .k0 (.cons .k0 (.cons .k0 (.cons .k0 (.cons .k0 .nil))))))))))))) .nil
        · rw [if_neg (ne_true_of_eq_false c24)] at hj17
          refine .skip <| .inn ?_
          cases hj17
          exact .stj () (.cons Mm.m1 (.cons Mm.m2 .nil)) (.of (.cons .k0 (.cons .k0 (.cons .k0 (.cons .k0 (.cons .k0 (.cons .k0 (.cons .k0 (.cons .k0 (.cons .k0 (.cons .k0 (.cons .k0 (.cons .k0 .nil))))))))))))) .nil
    · clear hj17
      refine .reg rfl <| .opp (P.bin (v := N 2) .g0 .k (.addc (by decide))) rfl <| .drop .k1 <| .opp (P.mov .t0) rfl <| .nil <| .then <| .rd <| .seq <| .reg rfl <| .opp (P.bin (v := Bo true) .g0 .k (BinV.lss.boolc (by decide))) rfl <| .nil <| .then ?_
      refine .seq <| .condT .t0 <| .skip <| .then ?_
      obtain ⟨y25, hj27, h⟩ := bnd_eq h
      refine .cutx (γ := Unit) (E1 := fun z26 => [(24, N 2), (0, pt b00 0)]) (L1 := fun z26 => [blk b00 83 (world_World.cs ⟨a0.setup, ⟨r1, r3⟩, a0.clients, a0.routers, a0.relay, a0.mail, IntKind.i64.wrap (a0.now + 1), a0.seen, y25, a0.since, a0.told, a0.keys, a0.digests, a0.asked, a0.forged, a0.clash⟩ z00a z00b z00c z00d z00e z00f z00g z00h z00i z00j z00k), bx chain_Chain.bd chain_Chain.fp z00a r1, bx chain_Chain.bd chain_Chain.fp z00b r3, bx client_Client.bd client_Client.fp z00c a0.clients.a0, bx client_Client.bd client_Client.fp z00d a0.clients.a1, bx router_Router.bd router_Router.fp z00e a0.routers.a0, bx router_Router.bd router_Router.fp z00f a0.routers.a1, bx relay_Relay.bd relay_Relay.fp z00g a0.relay, mb (fun (x : world_place) => Ag x.cs) (fun (x : Int) => N x) z00h a0.since, mb (fun (x : world_word) => Ag x.cs) (fun (x : Bool) => Bo x) z00i a0.told, mb (fun (x : ByteArray) => Value.string x) (fun (x : api_Inv) => Ag x.cs) z00j a0.keys, mb (fun (x : ByteArray) => Value.string x) (fun (x : world_data) => Ag x.cs) z00k a0.digests]) (R1 := fun z26 => []) ?_ (fun z26 => ?_)
      · clear h
        refine .block <| .seq <| .reg rfl <| .opp (P.mov .g0) rfl <| .opp (P.asg .t0) rfl <| .nil <| .then ?_
        obtain ⟨y28, hj30, hj27⟩ := bnd_eq hj27
        refine .cutx (γ := Unit) (E1 := fun z29 => [(49, Bo y28), (4, N 2), (24, N 2), (0, pt b00 0)]) (L1 := fun z29 => [blk b00 83 (world_World.cs ⟨a0.setup, ⟨r1, r3⟩, a0.clients, a0.routers, a0.relay, a0.mail, IntKind.i64.wrap (a0.now + 1), a0.seen, y15, a0.since, a0.told, a0.keys, a0.digests, a0.asked, a0.forged, a0.clash⟩ z00a z00b z00c z00d z00e z00f z00g z00h z00i z00j z00k), bx chain_Chain.bd chain_Chain.fp z00a r1, bx chain_Chain.bd chain_Chain.fp z00b r3, bx client_Client.bd client_Client.fp z00c a0.clients.a0, bx client_Client.bd client_Client.fp z00d a0.clients.a1, bx router_Router.bd router_Router.fp z00e a0.routers.a0, bx router_Router.bd router_Router.fp z00f a0.routers.a1, bx relay_Relay.bd relay_Relay.fp z00g a0.relay, mb (fun (x : world_place) => Ag x.cs) (fun (x : Int) => N x) z00h a0.since, mb (fun (x : world_word) => Ag x.cs) (fun (x : Bool) => Bo x) z00i a0.told, mb (fun (x : ByteArray) => Value.string x) (fun (x : api_Inv) => Ag x.cs) z00j a0.keys, mb (fun (x : ByteArray) => Value.string x) (fun (x : world_data) => Ag x.cs) z00k a0.digests]) (R1 := fun z29 => []) ?_ (fun z29 => ?_)
        · clear hj27
          refine .draw 23 (.on 0 .pu (.on 1 .pu (.on 2 .go (.on 3 .pu (.on 4 .pu (.on 5 .pu (.on 6 .pu (.on 7 .pu (.on 9 .pu (.on 10 .pu (.on 11 .pu (.on 12 .pu (.on 13 .pu (.on 16 .pu (.on 17 .pu (.on 18 .pu (.on 19 .pu (.on 8 .ld (.on 14 .ld (.on 15 .pu (.on 20 .ld (.on 21 .pu (.on 22 .pu .nl))))))))))))))))))))))) follows_mixed (.thn (.inb (.thn (.thn (.inb (.thn .body)))))) (by kernel_rfl) <| .dpu rfl (.n rfl) (P.mov .g2) rfl rfl <| .dpu rfl (.n rfl) (P.mov .g1) rfl rfl ?_
          obtain ⟨r31, hr32, hj30⟩ := bnd_eq hj30
          refine .dgo rfl (.n rfl) (G.call call39 (.cons .t1 (.cons .t0 .nil)) (S_world_World_corrupt b00 (⟨a0.setup, ⟨r1, r3⟩, a0.clients, a0.routers, a0.relay, a0.mail, IntKind.i64.wrap (a0.now + 1), a0.seen, y15, a0.since, a0.told, a0.keys, a0.digests, a0.asked, a0.forged, a0.clash⟩ : world_World) z00a z00b z00c z00d z00e z00f z00g z00h z00i z00j z00k 2 r31 hr32) (.cons .k0 (.cons .k0 (.cons .k0 (.cons .k0 (.cons .k0 (.cons .k0 (.cons .k0 (.cons .k0 (.cons .k0 (.cons .k0 (.cons .k0 (.cons .k0 .nil)))))))))))) .nil (fun _ _ => rfl) (fun _ _ => rfl) rfl) (.inr fun _ _ _ h => h) fun _ _ => .dpu rfl (.n rfl) (P.not .t0) rfl rfl <| .dpu rfl (.n rfl) (P.mov .t0) rfl rfl <| .split .k0 (fun c33 => ?_) (fun c33 => ?_)
          · rw [if_pos c33] at hj30
            refine .dpu rfl (.g rfl rfl .g0 rfl) (P.mov .g3) rfl rfl <| .dpu rfl (.g rfl rfl .g1 rfl) (P.nilc .t0) rfl rfl <| .dpu rfl (.g rfl rfl .g1 rfl) (P.fa .t0 fa_83_6 rfl) rfl rfl <| .dpu rfl (.g rfl rfl .g1 rfl) (P.mov .g4) rfl rfl <| .dpu rfl (.g rfl rfl .g2 rfl) (P.mov .g3) rfl rfl <| .dpu rfl (.g rfl rfl .g3 rfl) (P.nilc .t1) rfl rfl <| .dpu rfl (.g rfl rfl .g3 rfl) (P.fa .t0 fa_83_7 rfl) rfl rfl <| .dpu rfl (.g rfl rfl .g3 rfl) (P.iac (i := 2) .t1 rfl .t0 runUnderlying75 sizeOf3 rfl rfl) rfl rfl <| .dpu rfl (.g rfl rfl .g2 rfl) (P.mov .g5) rfl rfl <| .dpu rfl (.g rfl rfl .g3 rfl) (P.nilc .t0) rfl rfl <| .dpu rfl (.g rfl rfl .g3 rfl) (P.fa .t0 fa_83_0 rfl) rfl rfl <| .dpu rfl (.g rfl rfl .g3 rfl) (P.fa .t0 fa_23_0 rfl) rfl rfl ?_
            refine .dld rfl (.g rfl rfl .g3 rfl) (V.ld (v := N (IntKind.i64.wrap (a0.now + 1))) .t2 .k0 (.one isAgg3 rfl)) (fun _ h => h) rfl rfl <| .dld rfl (.g rfl rfl .g3 rfl) (V.ld (v := N a0.seen.a2) .t2 .k0 (.one isAgg3 rfl)) (fun _ h => h) rfl rfl <| .dpu rfl (.g rfl rfl .g3 rfl) (P.bin .t1 .t0 .sub) rfl rfl <| .dld rfl (.g rfl rfl .g2 rfl) (V.ld (v := N a0.setup.Delay) .t1 .k0 (.one isAgg3 rfl)) (fun _ h => h) rfl rfl <| .dpu rfl (.g rfl rfl .g2 rfl) (P.bin .t1 .t0 .gtr) rfl rfl <| .dpu rfl (.n rfl) (P.pickT .t1 .t0) rfl rfl <| .dnil ?_
            cases hj30
            exact .stj () (.cons Mm.m0 (.cons Mm.m1 (.cons Mm.m2 (.cons Mm.m3 .nil)))) (.of (.cons .k0 (.cons .k0 (.cons .k0 (.cons .k0 (.cons .k0 (.cons .k0 (.cons .k0 (.cons .k0 (.cons .k0 (.cons .k0 (.cons .k0 (.cons .k0 .nil))))))))))))) .nil
          · rw [if_neg (ne_true_of_eq_false c33)] at hj30
            refine .dsk rfl (.g rfl rfl .g0 rfl) rfl rfl <| .dsk rfl (.g rfl rfl .g0 rfl) rfl rfl <| .dsk rfl (.g rfl rfl .g0 rfl) rfl rfl <| .dsk rfl (.g rfl rfl .g0 rfl) rfl rfl <| .dsk rfl (.g rfl rfl .g0 rfl) rfl rfl <| .dsk rfl (.g rfl rfl .g0 rfl) rfl rfl <| .dsk rfl (.g rfl rfl .g0 rfl) rfl rfl <| .dsk rfl (.g rfl rfl .g0 rfl) rfl rfl <| .dsk rfl (.g rfl rfl .g0 rfl) rfl rfl <| .dsk rfl (.g rfl rfl .g0 rfl) rfl rfl <| .dsk rfl (.g rfl rfl .g0 rfl) rfl rfl <| .dsk rfl (.g rfl rfl .g0 rfl) rfl rfl ?_
            refine .dskl rfl (.g rfl rfl .g0 rfl) (fun _ h => h) rfl rfl <| .dskl rfl (.g rfl rfl .g0 rfl) (fun _ h => h) rfl rfl <| .dsk rfl (.g rfl rfl .g0 rfl) rfl rfl <| .dskl rfl (.g rfl rfl .g0 rfl) (fun _ h => h) rfl rfl <| .dsk rfl (.g rfl rfl .g0 rfl) rfl rfl <| .dpu rfl (.n rfl) (P.pickF .t0 .k) rfl rfl <| .dnil ?_
            cases hj30
            exact .stj () (.cons Mm.m0 (.cons Mm.m1 (.cons Mm.m2 (.cons Mm.m3 .nil)))) (.of (.cons .k0 (.cons .k0 (.cons .k0 (.cons .k0 (.cons .k0 (.cons .k0 (.cons .k0 (.cons .k0 (.cons .k0 (.cons .k0 (.cons .k0 (.cons .k0 .nil))))))))))))) .nil
        · clear hj30
          refine .cond .t0 (fun c34 => ?_) (fun c34 => ?_)
          · rw [if_pos c34] at hj27
            refine .reg rfl <| .opp (P.mov .g2) rfl <| .opp (P.mov .t1) rfl <| .opp (P.nilc .t1) rfl <| .opp (P.fa .t0 fa_83_8 rfl) rfl <| .opp (P.iac (i := 2) .t1 rfl .t0 runUnderlying76 sizeOf4 rfl rfl) rfl <| .opg (G.str .k .t0 .k0 (.mk (cs' := (world_World.cs ⟨a0.setup, ⟨r1, r3⟩, a0.clients, a0.routers, a0.relay, a0.mail, IntKind.i64.wrap (a0.now + 1), a0.seen, ⟨y15.a0, y15.a1, true, y15.a3⟩, a0.since, a0.told, a0.keys, a0.digests, a0.asked, a0.forged, a0.clash⟩ z00a z00b z00c z00d z00e z00f z00g z00h z00i z00j z00k)) sizeOf4 rfl rfl rfl rfl)) rfl fun _ _ => .nil <| .inn ?_
            cases hj27
            exact .stj () (.cons Mm.m0 (.cons Mm.m1 .nil)) (.of (.cons .k0 (.cons .k0 (.cons .k0 (.cons .k0 (.cons .k0 (.cons .k0 (.cons .k0 (.cons .k0 (.cons .k0 (.cons .k0 (.cons .k0 (.cons .k0 .nil))))))))))))) .nil
          · rw [if_neg (ne_true_of_eq_false c34)] at hj27
            refine .skip <| .inn ?_
            cases hj27
            exact .stj () (.cons Mm.m1 (.cons Mm.m2 .nil)) (.of (.cons .k0 (.cons .k0 (.cons .k0 (.cons .k0 (.cons .k0 (.cons .k0 (.cons .k0 (.cons .k0 (.cons .k0 (.cons .k0 (.cons .k0 (.cons .k0 .nil))))))))))))) .nil
      · clear hj27
        refine .reg rfl <| .opp (P.bin (v := N 3) .g0 .k (.addc (by decide))) rfl <| .drop .k1 <| .opp (P.mov .t0) rfl <| .nil <| .then <| .rd <| .seq <| .reg rfl <| .opp (P.bin (v := Bo true) .g0 .k (BinV.lss.boolc (by decide))) rfl <| .nil <| .then ?_
        refine .seq <| .condT .t0 <| .skip <| .then ?_
        obtain ⟨y35, hj37, h⟩ := bnd_eq h
        refine .cutx (γ := Unit) (E1 := fun z36 => [(24, N 3), (0, pt b00 0)]) (L1 := fun z36 => [blk b00 83 (world_World.cs ⟨a0.setup, ⟨r1, r3⟩, a0.clients, a0.routers, a0.relay, a0.mail, IntKind.i64.wrap (a0.now + 1), a0.seen, y35, a0.since, a0.told, a0.keys, a0.digests, a0.asked, a0.forged, a0.clash⟩ z00a z00b z00c z00d z00e z00f z00g z00h z00i z00j z00k), bx chain_Chain.bd chain_Chain.fp z00a r1, bx chain_Chain.bd chain_Chain.fp z00b r3, bx client_Client.bd client_Client.fp z00c a0.clients.a0, bx client_Client.bd client_Client.fp z00d a0.clients.a1, bx router_Router.bd router_Router.fp z00e a0.routers.a0, bx router_Router.bd router_Router.fp z00f a0.routers.a1, bx relay_Relay.bd relay_Relay.fp z00g a0.relay, mb (fun (x : world_place) => Ag x.cs) (fun (x : Int) => N x) z00h a0.since, mb (fun (x : world_word) => Ag x.cs) (fun (x : Bool) => Bo x) z00i a0.told, mb (fun (x : ByteArray) => Value.string x) (fun (x : api_Inv) => Ag x.cs) z00j a0.keys, mb (fun (x : ByteArray) => Value.string x) (fun (x : world_data) => Ag x.cs) z00k a0.digests]) (R1 := fun z36 => []) ?_ (fun z36 => ?_)
        · clear h
          refine .block <| .seq <| .reg rfl <| .opp (P.mov .g0) rfl <| .opp (P.asg .t0) rfl <| .nil <| .then ?_
          obtain ⟨y38, hj40, hj37⟩ := bnd_eq hj37
          refine .cutx (γ := Unit) (E1 := fun z39 => [(49, Bo y38), (4, N 3), (24, N 3), (0, pt b00 0)]) (L1 := fun z39 => [blk b00 83 (world_World.cs ⟨a0.setup, ⟨r1, r3⟩, a0.clients, a0.routers, a0.relay, a0.mail, IntKind.i64.wrap (a0.now + 1), a0.seen, y25, a0.since, a0.told, a0.keys, a0.digests, a0.asked, a0.forged, a0.clash⟩ z00a z00b z00c z00d z00e z00f z00g z00h z00i z00j z00k), bx chain_Chain.bd chain_Chain.fp z00a r1, bx chain_Chain.bd chain_Chain.fp z00b r3, bx client_Client.bd client_Client.fp z00c a0.clients.a0, bx client_Client.bd client_Client.fp z00d a0.clients.a1, bx router_Router.bd router_Router.fp z00e a0.routers.a0, bx router_Router.bd router_Router.fp z00f a0.routers.a1, bx relay_Relay.bd relay_Relay.fp z00g a0.relay, mb (fun (x : world_place) => Ag x.cs) (fun (x : Int) => N x) z00h a0.since, mb (fun (x : world_word) => Ag x.cs) (fun (x : Bool) => Bo x) z00i a0.told, mb (fun (x : ByteArray) => Value.string x) (fun (x : api_Inv) => Ag x.cs) z00j a0.keys, mb (fun (x : ByteArray) => Value.string x) (fun (x : world_data) => Ag x.cs) z00k a0.digests]) (R1 := fun z39 => []) ?_ (fun z39 => ?_)
          · clear hj37
            refine .draw 23 (.on 0 .pu (.on 1 .pu (.on 2 .go (.on 3 .pu (.on 4 .pu (.on 5 .pu (.on 6 .pu (.on 7 .pu (.on 9 .pu (.on 10 .pu (.on 11 .pu (.on 12 .pu (.on 13 .pu (.on 16 .pu (.on 17 .pu (.on 18 .pu (.on 19 .pu (.on 8 .ld (.on 14 .ld (.on 15 .pu (.on 20 .ld (.on 21 .pu (.on 22 .pu .nl))))))))))))))))))))))) follows_mixed (.thn (.inb (.thn (.thn (.inb (.thn .body)))))) (by kernel_rfl) <| .dpu rfl (.n rfl) (P.mov .g2) rfl rfl <| .dpu rfl (.n rfl) (P.mov .g1) rfl rfl ?_
            obtain ⟨r41, hr42, hj40⟩ := bnd_eq hj40
            refine .dgo rfl (.n rfl) (G.call call39 (.cons .t1 (.cons .t0 .nil)) (S_world_World_corrupt b00 (⟨a0.setup, ⟨r1, r3⟩, a0.clients, a0.routers, a0.relay, a0.mail, IntKind.i64.wrap (a0.now + 1), a0.seen, y25, a0.since, a0.told, a0.keys, a0.digests, a0.asked, a0.forged, a0.clash⟩ : world_World) z00a z00b z00c z00d z00e z00f z00g z00h z00i z00j z00k 3 r41 hr42) (.cons .k0 (.cons .k0 (.cons .k0 (.cons .k0 (.cons .k0 (.cons .k0 (.cons .k0 (.cons .k0 (.cons .k0 (.cons .k0 (.cons .k0 (.cons .k0 .nil)))))))))))) .nil (fun _ _ => rfl) (fun _ _ => rfl) rfl) (.inr fun _ _ _ h => h) fun _ _ => .dpu rfl (.n rfl) (P.not .t0) rfl rfl <| .dpu rfl (.n rfl) (P.mov .t0) rfl rfl <| .split .k0 (fun c43 => ?_) (fun c43 => ?_)
            · rw [if_pos c43] at hj40
              refine .dpu rfl (.g rfl rfl .g0 rfl) (P.mov .g3) rfl rfl <| .dpu rfl (.g rfl rfl .g1 rfl) (P.nilc .t0) rfl rfl <| .dpu rfl (.g rfl rfl .g1 rfl) (P.fa .t0 fa_83_6 rfl) rfl rfl <| .dpu rfl (.g rfl rfl .g1 rfl) (P.mov .g4) rfl rfl <| .dpu rfl (.g rfl rfl .g2 rfl) (P.mov .g3) rfl rfl <| .dpu rfl (.g rfl rfl .g3 rfl) (P.nilc .t1) rfl rfl <| .dpu rfl (.g rfl rfl .g3 rfl) (P.fa .t0 fa_83_7 rfl) rfl rfl <| .dpu rfl (.g rfl rfl .g3 rfl) (P.iac (i := 3) .t1 rfl .t0 runUnderlying75 sizeOf3 rfl rfl) rfl rfl <| .dpu rfl (.g rfl rfl .g2 rfl) (P.mov .g5) rfl rfl <| .dpu rfl (.g rfl rfl .g3 rfl) (P.nilc .t0) rfl rfl <| .dpu rfl (.g rfl rfl .g3 rfl) (P.fa .t0 fa_83_0 rfl) rfl rfl <| .dpu rfl (.g rfl rfl .g3 rfl) (P.fa .t0 fa_23_0 rfl) rfl rfl ?_
              refine .dld rfl (.g rfl rfl .g3 rfl) (V.ld (v := N (IntKind.i64.wrap (a0.now + 1))) .t2 .k0 (.one isAgg3 rfl)) (fun _ h => h) rfl rfl <| .dld rfl (.g rfl rfl .g3 rfl) (V.ld (v := N a0.seen.a3) .t2 .k0 (.one isAgg3 rfl)) (fun _ h => h) rfl rfl <| .dpu rfl (.g rfl rfl .g3 rfl) (P.bin .t1 .t0 .sub) rfl rfl <| .dld rfl (.g rfl rfl .g2 rfl) (V.ld (v := N a0.setup.Delay) .t1 .k0 (.one isAgg3 rfl)) (fun _ h => h) rfl rfl <| .dpu rfl (.g rfl rfl .g2 rfl) (P.bin .t1 .t0 .gtr) rfl rfl <| .dpu rfl (.n rfl) (P.pickT .t1 .t0) rfl rfl <| .dnil ?_
              cases hj40
              exact .stj () (.cons Mm.m0 (.cons Mm.m1 (.cons Mm.m2 (.cons Mm.m3 .nil)))) (.of (.cons .k0 (.cons .k0 (.cons .k0 (.cons .k0 (.cons .k0 (.cons .k0 (.cons .k0 (.cons .k0 (.cons .k0 (.cons .k0 (.cons .k0 (.cons .k0 .nil))))))))))))) .nil
            · rw [if_neg (ne_true_of_eq_false c43)] at hj40
              refine .dsk rfl (.g rfl rfl .g0 rfl) rfl rfl <| .dsk rfl (.g rfl rfl .g0 rfl) rfl rfl <| .dsk rfl (.g rfl rfl .g0 rfl) rfl rfl <| .dsk rfl (.g rfl rfl .g0 rfl) rfl rfl <| .dsk rfl (.g rfl rfl .g0 rfl) rfl rfl <| .dsk rfl (.g rfl rfl .g0 rfl) rfl rfl <| .dsk rfl (.g rfl rfl .g0 rfl) rfl rfl <| .dsk rfl (.g rfl rfl .g0 rfl) rfl rfl <| .dsk rfl (.g rfl rfl .g0 rfl) rfl rfl <| .dsk rfl (.g rfl rfl .g0 rfl) rfl rfl <| .dsk rfl (.g rfl rfl .g0 rfl) rfl rfl <| .dsk rfl (.g rfl rfl .g0 rfl) rfl rfl ?_
              refine .dskl rfl (.g rfl rfl .g0 rfl) (fun _ h => h) rfl rfl <| .dskl rfl (.g rfl rfl .g0 rfl) (fun _ h => h) rfl rfl <| .dsk rfl (.g rfl rfl .g0 rfl) rfl rfl <| .dskl rfl (.g rfl rfl .g0 rfl) (fun _ h => h) rfl rfl <| .dsk rfl (.g rfl rfl .g0 rfl) rfl rfl <| .dpu rfl (.n rfl) (P.pickF .t0 .k) rfl rfl <| .dnil ?_
              cases hj40
              exact .stj () (.cons Mm.m0 (.cons Mm.m1 (.cons Mm.m2 (.cons Mm.m3 .nil)))) (.of (.cons .k0 (.cons .k0 (.cons .k0 (.cons .k0 (.cons .k0 (.cons .k0 (.cons .k0 (.cons .k0 (.cons .k0 (.cons .k0 (.cons .k0 (.cons .k0 .nil))))))))))))) .nil
          · clear hj40
            refine .cond .t0 (fun c44 => ?_) (fun c44 => ?_)
            · rw [if_pos c44] at hj37
              refine .reg rfl <| .opp (P.mov .g2) rfl <| .opp (P.mov .t1) rfl <| .opp (P.nilc .t1) rfl <| .opp (P.fa .t0 fa_83_8 rfl) rfl <| .opp (P.iac (i := 3) .t1 rfl .t0 runUnderlying76 sizeOf4 rfl rfl) rfl <| .opg (G.str .k .t0 .k0 (.mk (cs' := (world_World.cs ⟨a0.setup, ⟨r1, r3⟩, a0.clients, a0.routers, a0.relay, a0.mail, IntKind.i64.wrap (a0.now + 1), a0.seen, ⟨y25.a0, y25.a1, y25.a2, true⟩, a0.since, a0.told, a0.keys, a0.digests, a0.asked, a0.forged, a0.clash⟩ z00a z00b z00c z00d z00e z00f z00g z00h z00i z00j z00k)) sizeOf4 rfl rfl rfl rfl)) rfl fun _ _ => .nil <| .inn ?_
              cases hj37
              exact .stj () (.cons Mm.m0 (.cons Mm.m1 .nil)) (.of (.cons .k0 (.cons .k0 (.cons .k0 (.cons .k0 (.cons .k0 (.cons .k0 (.cons .k0 (.cons .k0 (.cons .k0 (.cons .k0 (.cons .k0 (.cons .k0 .nil))))))))))))) .nil
            · rw [if_neg (ne_true_of_eq_false c44)] at hj37
              refine .skip <| .inn ?_
              cases hj37
              exact .stj () (.cons Mm.m1 (.cons Mm.m2 .nil)) (.of (.cons .k0 (.cons .k0 (.cons .k0 (.cons .k0 (.cons .k0 (.cons .k0 (.cons .k0 (.cons .k0 (.cons .k0 (.cons .k0 (.cons .k0 (.cons .k0 .nil))))))))))))) .nil
        · clear hj37
          refine .reg rfl <| .opp (P.bin (v := N 4) .g0 .k (.addc (by decide))) rfl <| .drop .k1 <| .opp (P.mov .t0) rfl <| .nil <| .then <| .rd <| .seq <| .reg rfl <| .opp (P.bin (v := Bo false) .g0 .k (BinV.lss.boolc (by decide))) rfl <| .nil <| .then ?_
          refine .seq <| .condF .t0 <| .exit <| .thx <| .thx <| .inb <| .then <| .seq <| .reg rfl <| .opp (P.mov .g1) rfl <| .opp (P.nilc .t0) rfl <| .opp (P.fa .t0 fa_83_9 rfl) rfl ?_
          refine .op (V.ld (v := z00h) .t0 .k0 (.one isAgg77 rfl)) rfl ?_
          obtain ⟨y46, hy47, h⟩ := bnd_eq h
          refine .mbo .k8 hy47 fun b48 hz45 => ?_
          replace hz45 : z00h = .map (some b48) := hz45
          subst hz45
          obtain ⟨hb50, h⟩ := grd_eq h
          refine .conseq .k0 (q := mpo (fun (x : world_place) => Ag x.cs) (fun (x : Int) => N x) b48 ([])) (fun _ h_ => by rw [List.isEmpty_iff.1 hb50] at h_; exact h_) <| .opx (X.rng (fk := (fun (x : world_place) => Ag x.cs)) (fe := (fun (x : Int) => N x)) (l := []) .t0 .k0 underlying77) rfl fun b49 => .nil <| .then <| .block <| .rounds 1 <| .rd <| .seq <| .reg rfl <| .op (V.nxt .g0 .k0 .k0) rfl <| .opp (P.ext (v := Bo false) .t0 rfl) rfl <| .nil ?_
          refine .then <| .seq <| .condF .t0 <| .exit <| .thx <| .thx <| .inb ?_
          cases h
          exact .mbc .k1 rfl <| .finwn (.map (some b48)) (.r0 rfl) trivial (Ls.of (.cons .k2 (.cons .k2 (.cons .k2 (.cons .k2 (.cons .k2 (.cons .k2 (.cons .k2 (.cons .k2 (.cons .k0 (.cons .k1 (.cons .k1 (.cons .k1 .nil))))))))))))) .nil
attribute [irreducible] world_World_tick
noncomputable def world_World_Step (a0 : world_World) (a1 : api_Step) : Option (world_World) :=
  if (!(world_World_is a0)) = true then (some a0) else (if (decide (a1.Kind = 1)) = true then (Option.bind (world_World_tick a0) fun r4 => some r4) else (if (decide (a1.Kind = 2)) = true then none else (thn (if (decide (a1.Kind = 3)) = true then (decide (a1.Kind = 3)) else (if (decide (a1.Kind = 4)) = true then (decide (a1.Kind = 4)) else (if (decide (a1.Kind = 5)) = true then (decide (a1.Kind = 5)) else (decide (a1.Kind = 7))))) fun (y8 : Bool) => if y8 = true then none else (if (decide (a1.Kind = 6)) = true then none else (if (decide (a1.Kind = 8)) = true then none else (if (decide (a1.Kind = 9)) = true then none else (if (decide (a1.Kind = 10)) = true then none else (if (decide (a1.Kind = 11)) = true then none else (if (decide (a1.Kind = 12)) = true then none else (if (decide (a1.Kind = 13)) = true then none else (some a0)))))))))))
set_option maxRecDepth 20000 in
set_option maxHeartbeats 8000000 in
theorem S_world_World_Step (b00 : Nat) (a0 : world_World) (z00a z00b z00c z00d z00e z00f z00g z00h z00i z00j z00k : Value) (a1 : api_Step) (z01a : Value) (r : world_World) (h : world_World_Step a0 a1 = some r) :
    SpecF Tryz.prog 25 [pt b00 0, Ag (api_Step.cs a1 z01a)] [blk b00 83 (world_World.cs a0 z00a z00b z00c z00d z00e z00f z00g z00h z00i z00j z00k), bx chain_Chain.bd chain_Chain.fp z00a a0.sides.a0, bx chain_Chain.bd chain_Chain.fp z00b a0.sides.a1, bx client_Client.bd client_Client.fp z00c a0.clients.a0, bx client_Client.bd client_Client.fp z00d a0.clients.a1, bx router_Router.bd router_Router.fp z00e a0.routers.a0, bx router_Router.bd router_Router.fp z00f a0.routers.a1, bx relay_Relay.bd relay_Relay.fp z00g a0.relay, mb (fun (x : world_place) => Ag x.cs) (fun (x : Int) => N x) z00h a0.since, mb (fun (x : world_word) => Ag x.cs) (fun (x : Bool) => Bo x) z00i a0.told, mb (fun (x : ByteArray) => Value.string x) (fun (x : api_Inv) => Ag x.cs) z00j a0.keys, mb (fun (x : ByteArray) => Value.string x) (fun (x : world_data) => Ag x.cs) z00k a0.digests] [rows 1 z01a (a1.Data.map (fun x => [B8 x]))] (fun z : Value => True) (fun z => Tu []) (fun z M => blk b00 83 (world_World.cs r z00a z00b z00c z00d z00e z00f z00g z z00i z00j z00k) :: bx chain_Chain.bd chain_Chain.fp z00a r.sides.a0 :: bx chain_Chain.bd chain_Chain.fp z00b r.sides.a1 :: bx client_Client.bd client_Client.fp z00c r.clients.a0 :: bx client_Client.bd client_Client.fp z00d r.clients.a1 :: bx router_Router.bd router_Router.fp z00e r.routers.a0 :: bx router_Router.bd router_Router.fp z00f r.routers.a1 :: bx relay_Relay.bd relay_Relay.fp z00g r.relay :: mb (fun (x : world_place) => Ag x.cs) (fun (x : Int) => N x) z r.since :: mb (fun (x : world_word) => Ag x.cs) (fun (x : Bool) => Bo x) z00i r.told :: mb (fun (x : ByteArray) => Value.string x) (fun (x : api_Inv) => Ag x.cs) z00j r.keys :: mb (fun (x : ByteArray) => Value.string x) (fun (x : world_data) => Ag x.cs) z00k r.digests ::  M) (fun z M =>  M) := by
  refine .of func25 rfl ntmps25 rfl fun w0 D0 G0 => ?_
  unfold world_World_Step at h
  refine .seq <| .reg rfl <| .opx (X.box (cs := (api_Step.cs a1 z01a)) .t1 rfl) rfl fun b1 => .nil <| .then <| .seq <| .seq <| .reg rfl <| .opp (P.mov .g1) rfl <| .opg (G.call call31 (.cons .t0 .nil) (S_world_World_is b00 a0 z00a z00b z00c z00d z00e z00f z00g z00h z00i z00j z00k _ rfl) (.cons .k1 (.cons .k1 (.cons .k1 (.cons .k1 (.cons .k1 (.cons .k1 (.cons .k1 (.cons .k1 (.cons .k1 (.cons .k1 (.cons .k1 (.cons .k1 .nil)))))))))))) .nil (fun _ _ => rfl) (fun _ _ => rfl) rfl) rfl fun _ _ => .opp (P.not .t0) rfl <| .nil ?_
  refine .then <| .cond .t0 (fun c2 => ?_) (fun c2 => ?_)
  · rw [if_pos c2] at h
    refine .ret <| .thr ?_
    cases h
    exact .finw z00h (.r0 rfl) trivial (Ls.of (.cons .k0 (.cons .k0 (.cons .k0 (.cons .k0 (.cons .k0 (.cons .k0 (.cons .k0 (.cons .k0 (.cons .k0 (.cons .k0 (.cons .k0 (.cons .k0 .nil))))))))))))) .nil
  · rw [if_neg (ne_true_of_eq_false c2)] at h
    refine .skip <| .then <| .seq <| .reg rfl <| .opp (P.fa .g0 fa_70_0 rfl) rfl <| .op (V.ld (v := N a1.Kind) .t0 .k12 (.one isAgg3 rfl)) rfl <| .nil <| .then <| .block <| .seq <| .reg rfl <| .opp (P.bin .g0 .k .eql) rfl ?_
    refine .opp (P.asg .t0) rfl <| .nil <| .then <| .cond .t0 (fun c3 => ?_) (fun c3 => ?_)
    · rw [if_pos c3] at h
      refine .reg rfl <| .opp (P.mov .t2) rfl ?_
      obtain ⟨r4, hr5, h⟩ := bnd_eq h
      refine .opg (G.call call48 (.cons .t0 .nil) (S_world_World_tick b00 a0 z00a z00b z00c z00d z00e z00f z00g z00h z00i z00j z00k r4 hr5) (.cons .k0 (.cons .k0 (.cons .k0 (.cons .k0 (.cons .k0 (.cons .k0 (.cons .k0 (.cons .k0 (.cons .k0 (.cons .k0 (.cons .k0 (.cons .k0 .nil)))))))))))) .nil (fun _ _ => rfl) (fun _ _ => rfl) rfl) rfl fun u6 _ => .drop .k0 <| .nil <| .inn ?_
      cases h
      exact .finwn u6 (.r0 rfl) trivial (Ls.of (.cons .k0 (.cons .k0 (.cons .k0 (.cons .k0 (.cons .k0 (.cons .k0 (.cons .k0 (.cons .k0 (.cons .k0 (.cons .k0 (.cons .k0 (.cons .k0 .nil))))))))))))) .nil
    · rw [if_neg (ne_true_of_eq_false c3)] at h
      refine .seq <| .reg rfl <| .opp (P.bin .g0 .k .eql) rfl <| .opp (P.asg .t0) rfl <| .nil <| .then <| .cond .t0 (fun c7 => ?_) (fun c7 => ?_)
      · rw [if_pos c7] at h
        refine .reg rfl <| .opp (P.mov .t2) rfl <| .opp (P.fa .t2 fa_70_1 rfl) rfl <| .op (V.ld (v := N a1.A) .t0 .k12 (.one isAgg3 rfl)) rfl ?_
        cases h
      · rw [if_neg (ne_true_of_eq_false c7)] at h
        obtain ⟨y8, hj10, h⟩ := thn_eq h
        refine .cutx (γ := Unit) (E1 := fun z9 => [(19, Bo y8), (8, N a1.Kind), (3, pt b1 0), (0, pt b00 0)]) (L1 := fun z9 => [blk b1 70 (api_Step.cs a1 z01a), blk b00 83 (world_World.cs a0 z00a z00b z00c z00d z00e z00f z00g z00h z00i z00j z00k), bx chain_Chain.bd chain_Chain.fp z00a a0.sides.a0, bx chain_Chain.bd chain_Chain.fp z00b a0.sides.a1, bx client_Client.bd client_Client.fp z00c a0.clients.a0, bx client_Client.bd client_Client.fp z00d a0.clients.a1, bx router_Router.bd router_Router.fp z00e a0.routers.a0, bx router_Router.bd router_Router.fp z00f a0.routers.a1, bx relay_Relay.bd relay_Relay.fp z00g a0.relay, mb (fun (x : world_place) => Ag x.cs) (fun (x : Int) => N x) z00h a0.since, mb (fun (x : world_word) => Ag x.cs) (fun (x : Bool) => Bo x) z00i a0.told, mb (fun (x : ByteArray) => Value.string x) (fun (x : api_Inv) => Ag x.cs) z00j a0.keys, mb (fun (x : ByteArray) => Value.string x) (fun (x : world_data) => Ag x.cs) z00k a0.digests]) (R1 := fun z9 => [rows 1 z01a (a1.Data.map (fun x => [B8 x]))]) ?_ (fun z9 => ?_)
        · clear h
          refine .seq <| .reg rfl <| .opp (P.bin .g0 .k .eql) rfl <| .opp (P.asg .t0) rfl <| .nil <| .then <| .cond .g0 (fun c11 => ?_) (fun c11 => ?_)
          · rw [if_pos c11] at hj10
            refine .skip ?_
            subst hj10
            exact .stj () (.cons Mm.m0 (.cons Mm.m1 (.cons Mm.m2 (.cons Mm.m3 .nil)))) (.of (.cons .k12 (.cons .k0 (.cons .k0 (.cons .k0 (.cons .k0 (.cons .k0 (.cons .k0 (.cons .k0 (.cons .k0 (.cons .k0 (.cons .k0 (.cons .k0 (.cons .k0 .nil)))))))))))))) (.cons Mm.m0 .nil)
          · rw [if_neg (ne_true_of_eq_false c11)] at hj10
            refine .seq <| .reg rfl <| .opp (P.bin .g1 .k .eql) rfl <| .drop .k1 <| .opp (P.asg .t0) rfl <| .nil <| .then <| .cond .g0 (fun c12 => ?_) (fun c12 => ?_)
            · rw [if_pos c12] at hj10
              refine .skip ?_
              subst hj10
              exact .stj () (.cons Mm.m0 (.cons Mm.m1 (.cons Mm.m2 (.cons Mm.m3 .nil)))) (.of (.cons .k12 (.cons .k0 (.cons .k0 (.cons .k0 (.cons .k0 (.cons .k0 (.cons .k0 (.cons .k0 (.cons .k0 (.cons .k0 (.cons .k0 (.cons .k0 (.cons .k0 .nil)))))))))))))) (.cons Mm.m0 .nil)
            · rw [if_neg (ne_true_of_eq_false c12)] at hj10
              refine .seq <| .reg rfl <| .opp (P.bin .g1 .k .eql) rfl <| .drop .k1 <| .opp (P.asg .t0) rfl <| .nil <| .then <| .cond .g0 (fun c13 => ?_) (fun c13 => ?_)
              · rw [if_pos c13] at hj10
                refine .skip ?_
                subst hj10
                exact .stj () (.cons Mm.m0 (.cons Mm.m1 (.cons Mm.m2 (.cons Mm.m3 .nil)))) (.of (.cons .k12 (.cons .k0 (.cons .k0 (.cons .k0 (.cons .k0 (.cons .k0 (.cons .k0 (.cons .k0 (.cons .k0 (.cons .k0 (.cons .k0 (.cons .k0 (.cons .k0 .nil)))))))))))))) (.cons Mm.m0 .nil)
              · rw [if_neg (ne_true_of_eq_false c13)] at hj10
                refine .reg rfl <| .opp (P.bin .g1 .k .eql) rfl <| .drop .k1 <| .opp (P.asg .t0) rfl <| .nil ?_
                subst hj10
                exact .stj () (.cons Mm.m0 (.cons Mm.m1 (.cons Mm.m2 (.cons Mm.m3 .nil)))) (.of (.cons .k12 (.cons .k0 (.cons .k0 (.cons .k0 (.cons .k0 (.cons .k0 (.cons .k0 (.cons .k0 (.cons .k0 (.cons .k0 (.cons .k0 (.cons .k0 (.cons .k0 .nil)))))))))))))) (.cons Mm.m0 .nil)
        · clear hj10
          refine .cond .t0 (fun c14 => ?_) (fun c14 => ?_)
          · rw [if_pos c14] at h
            refine .reg rfl <| .opp (P.mov .t2) rfl <| .op (V.ld (v := Ag (api_Step.cs a1 z01a)) .t2 .k0 (.agg isAgg70 sizeOf70 rfl rfl)) rfl ?_
            cases h
          · rw [if_neg (ne_true_of_eq_false c14)] at h
            refine .seq <| .reg rfl <| .opp (P.bin .g0 .k .eql) rfl <| .opp (P.asg .t0) rfl <| .nil <| .then <| .cond .t0 (fun c15 => ?_) (fun c15 => ?_)
            · rw [if_pos c15] at h
              refine .reg rfl <| .opp (P.mov .t2) rfl <| .opp (P.fa .g2 fa_70_2 rfl) rfl <| .op (V.ld (v := N a1.B) .t0 .k0 (.one isAgg3 rfl)) rfl <| .opp (P.fa .t3 fa_70_4 rfl) rfl <| .op (V.ld (v := z01a) .t0 .k0 (.one isAgg68 rfl)) rfl ?_
              cases h
            · rw [if_neg (ne_true_of_eq_false c15)] at h
              refine .seq <| .reg rfl <| .opp (P.bin .g0 .k .eql) rfl <| .opp (P.asg .t0) rfl <| .nil <| .then <| .cond .t0 (fun c16 => ?_) (fun c16 => ?_)
              · rw [if_pos c16] at h
                refine .reg rfl <| .opp (P.mov .t2) rfl <| .opp (P.fa .g2 fa_70_2 rfl) rfl <| .op (V.ld (v := N a1.B) .t0 .k0 (.one isAgg3 rfl)) rfl <| .opp (P.fa .t3 fa_70_1 rfl) rfl <| .op (V.ld (v := N a1.A) .t0 .k0 (.one isAgg3 rfl)) rfl ?_
                cases h
              · rw [if_neg (ne_true_of_eq_false c16)] at h
                refine .seq <| .reg rfl <| .opp (P.bin .g0 .k .eql) rfl <| .opp (P.asg .t0) rfl <| .nil <| .then <| .cond .t0 (fun c17 => ?_) (fun c17 => ?_)
                · rw [if_pos c17] at h
                  refine .reg rfl <| .opp (P.mov .t2) rfl <| .opp (P.fa .g2 fa_70_1 rfl) rfl <| .op (V.ld (v := N a1.A) .t0 .k0 (.one isAgg3 rfl)) rfl <| .opp (P.fa .g3 fa_70_2 rfl) rfl <| .op (V.ld (v := N a1.B) .t0 .k0 (.one isAgg3 rfl)) rfl <| .opp (P.fa .t4 fa_70_3 rfl) rfl <| .op (V.ld (v := N a1.C) .t0 .k0 (.one isAgg3 rfl)) rfl ?_
                  cases h
                · rw [if_neg (ne_true_of_eq_false c17)] at h
                  refine .seq <| .reg rfl <| .opp (P.bin .g0 .k .eql) rfl <| .opp (P.asg .t0) rfl <| .nil <| .then <| .cond .t0 (fun c18 => ?_) (fun c18 => ?_)
                  · rw [if_pos c18] at h
                    refine .reg rfl <| .opp (P.mov .t2) rfl <| .opp (P.fa .g2 fa_70_1 rfl) rfl <| .op (V.ld (v := N a1.A) .t0 .k0 (.one isAgg3 rfl)) rfl <| .opp (P.fa .t3 fa_70_2 rfl) rfl <| .op (V.ld (v := N a1.B) .t0 .k0 (.one isAgg3 rfl)) rfl ?_
                    cases h
                  · rw [if_neg (ne_true_of_eq_false c18)] at h
                    refine .seq <| .reg rfl <| .opp (P.bin .g0 .k .eql) rfl <| .opp (P.asg .t0) rfl <| .nil <| .then <| .cond .t0 (fun c19 => ?_) (fun c19 => ?_)
                    · rw [if_pos c19] at h
                      refine .reg rfl <| .opp (P.mov .t2) rfl <| .opp (P.fa .t2 fa_70_1 rfl) rfl <| .op (V.ld (v := N a1.A) .t0 .k0 (.one isAgg3 rfl)) rfl ?_
                      cases h
                    · rw [if_neg (ne_true_of_eq_false c19)] at h
                      refine .seq <| .reg rfl <| .opp (P.bin .g0 .k .eql) rfl <| .opp (P.asg .t0) rfl <| .nil <| .then <| .cond .t0 (fun c20 => ?_) (fun c20 => ?_)
                      · rw [if_pos c20] at h
                        refine .reg rfl <| .opp (P.mov .t2) rfl <| .opp (P.fa .g2 fa_70_1 rfl) rfl <| .op (V.ld (v := N a1.A) .t0 .k0 (.one isAgg3 rfl)) rfl <| .opp (P.fa .t3 fa_70_2 rfl) rfl <| .op (V.ld (v := N a1.B) .t0 .k0 (.one isAgg3 rfl)) rfl ?_
                        cases h
                      · rw [if_neg (ne_true_of_eq_false c20)] at h
                        refine .seq <| .reg rfl <| .opp (P.bin .t0 .k .eql) rfl <| .opp (P.asg .t0) rfl <| .nil <| .then <| .cond .t0 (fun c21 => ?_) (fun c21 => ?_)
                        · rw [if_pos c21] at h
                          refine .reg rfl <| .opp (P.mov .t1) rfl ?_
                          cases h
                        · rw [if_neg (ne_true_of_eq_false c21)] at h
                          refine .skip <| .inn ?_
                          cases h
                          exact .finwn z00h (.r0 rfl) trivial (Ls.of (.cons .k1 (.cons .k1 (.cons .k1 (.cons .k1 (.cons .k1 (.cons .k1 (.cons .k1 (.cons .k1 (.cons .k1 (.cons .k1 (.cons .k1 (.cons .k1 .nil))))))))))))) .nil
attribute [irreducible] world_World_Step
noncomputable def world_World_Now (a0 : world_World) : Int :=
  if (!(world_World_is a0)) = true then 0 else a0.now
set_option maxRecDepth 20000 in
set_option maxHeartbeats 8000000 in
theorem S_world_World_Now (b00 : Nat) (a0 : world_World) (z00a z00b z00c z00d z00e z00f z00g z00h z00i z00j z00k : Value) (r : Int) (h : world_World_Now a0 = r) :
    SpecF Tryz.prog 15 [pt b00 0] [blk b00 83 (world_World.cs a0 z00a z00b z00c z00d z00e z00f z00g z00h z00i z00j z00k), bx chain_Chain.bd chain_Chain.fp z00a a0.sides.a0, bx chain_Chain.bd chain_Chain.fp z00b a0.sides.a1, bx client_Client.bd client_Client.fp z00c a0.clients.a0, bx client_Client.bd client_Client.fp z00d a0.clients.a1, bx router_Router.bd router_Router.fp z00e a0.routers.a0, bx router_Router.bd router_Router.fp z00f a0.routers.a1, bx relay_Relay.bd relay_Relay.fp z00g a0.relay, mb (fun (x : world_place) => Ag x.cs) (fun (x : Int) => N x) z00h a0.since, mb (fun (x : world_word) => Ag x.cs) (fun (x : Bool) => Bo x) z00i a0.told, mb (fun (x : ByteArray) => Value.string x) (fun (x : api_Inv) => Ag x.cs) z00j a0.keys, mb (fun (x : ByteArray) => Value.string x) (fun (x : world_data) => Ag x.cs) z00k a0.digests] [] (fun z : Unit => True) (fun z => N r) (fun z M => blk b00 83 (world_World.cs a0 z00a z00b z00c z00d z00e z00f z00g z00h z00i z00j z00k) :: bx chain_Chain.bd chain_Chain.fp z00a a0.sides.a0 :: bx chain_Chain.bd chain_Chain.fp z00b a0.sides.a1 :: bx client_Client.bd client_Client.fp z00c a0.clients.a0 :: bx client_Client.bd client_Client.fp z00d a0.clients.a1 :: bx router_Router.bd router_Router.fp z00e a0.routers.a0 :: bx router_Router.bd router_Router.fp z00f a0.routers.a1 :: bx relay_Relay.bd relay_Relay.fp z00g a0.relay :: mb (fun (x : world_place) => Ag x.cs) (fun (x : Int) => N x) z00h a0.since :: mb (fun (x : world_word) => Ag x.cs) (fun (x : Bool) => Bo x) z00i a0.told :: mb (fun (x : ByteArray) => Value.string x) (fun (x : api_Inv) => Ag x.cs) z00j a0.keys :: mb (fun (x : ByteArray) => Value.string x) (fun (x : world_data) => Ag x.cs) z00k a0.digests ::  M) (fun z M =>  M) := by
  refine .of func15 rfl ntmps15 rfl fun w0 D0 G0 => ?_
  unfold world_World_Now at h
  refine .seq <| .reg rfl <| .op0 (OpP.toV (P.asg .k)) rfl <| .nil <| .then <| .seq <| .seq <| .reg rfl <| .opp (P.mov .g0) rfl <| .opg (G.call call31 (.cons .t0 .nil) (S_world_World_is b00 a0 z00a z00b z00c z00d z00e z00f z00g z00h z00i z00j z00k _ rfl) (.cons .k0 (.cons .k0 (.cons .k0 (.cons .k0 (.cons .k0 (.cons .k0 (.cons .k0 (.cons .k0 (.cons .k0 (.cons .k0 (.cons .k0 (.cons .k0 .nil)))))))))))) .nil (fun _ _ => rfl) (fun _ _ => rfl) rfl) rfl fun _ _ => .opp (P.not .t0) rfl <| .nil ?_
  refine .then <| .cond .t0 (fun c1 => ?_) (fun c1 => ?_)
  · rw [if_pos c1] at h
    refine .seq <| .reg rfl <| .opp (P.asg .k) rfl <| .nil <| .then <| .ret <| .thr ?_
    subst h
    exact .finw () (.r1 rfl (.tmp .g0)) trivial (Ls.of (.cons .k0 (.cons .k0 (.cons .k0 (.cons .k0 (.cons .k0 (.cons .k0 (.cons .k0 (.cons .k0 (.cons .k0 (.cons .k0 (.cons .k0 (.cons .k0 .nil))))))))))))) .nil
  · rw [if_neg (ne_true_of_eq_false c1)] at h
    refine .skip <| .then <| .seq <| .reg rfl <| .opp (P.mov .t0) rfl <| .opp (P.nilc .t0) rfl <| .opp (P.fa .t0 fa_83_6 rfl) rfl <| .op (V.ld (v := N a0.now) .t0 .k0 (.one isAgg3 rfl)) rfl <| .opp (P.asg .t0) rfl <| .nil <| .then <| .ret ?_
    subst h
    exact .finw () (.r1 rfl (.tmp .g0)) trivial (Ls.of (.cons .k0 (.cons .k0 (.cons .k0 (.cons .k0 (.cons .k0 (.cons .k0 (.cons .k0 (.cons .k0 (.cons .k0 (.cons .k0 (.cons .k0 (.cons .k0 .nil))))))))))))) .nil
attribute [irreducible] world_World_Now
noncomputable def world_World_Mail (a0 : world_World) : Option ((List api_Mail)) :=
  if (!(world_World_is a0)) = true then (some ([] : List api_Mail)) else (grd (okS (net_Twin_nil 0).length none (some 0) none) <| some ((slc (net_Twin_nil 0) 0 (0 : Int).toNat)))
set_option maxRecDepth 20000 in
set_option maxHeartbeats 8000000 in
theorem S_world_World_Mail (b00 : Nat) (a0 : world_World) (z00a z00b z00c z00d z00e z00f z00g z00h z00i z00j z00k : Value) (r : (List api_Mail)) (h : world_World_Mail a0 = some r) :
    SpecF Tryz.prog 14 [pt b00 0] [blk b00 83 (world_World.cs a0 z00a z00b z00c z00d z00e z00f z00g z00h z00i z00j z00k), bx chain_Chain.bd chain_Chain.fp z00a a0.sides.a0, bx chain_Chain.bd chain_Chain.fp z00b a0.sides.a1, bx client_Client.bd client_Client.fp z00c a0.clients.a0, bx client_Client.bd client_Client.fp z00d a0.clients.a1, bx router_Router.bd router_Router.fp z00e a0.routers.a0, bx router_Router.bd router_Router.fp z00f a0.routers.a1, bx relay_Relay.bd relay_Relay.fp z00g a0.relay, mb (fun (x : world_place) => Ag x.cs) (fun (x : Int) => N x) z00h a0.since, mb (fun (x : world_word) => Ag x.cs) (fun (x : Bool) => Bo x) z00i a0.told, mb (fun (x : ByteArray) => Value.string x) (fun (x : api_Inv) => Ag x.cs) z00j a0.keys, mb (fun (x : ByteArray) => Value.string x) (fun (x : world_data) => Ag x.cs) z00k a0.digests] [] (fun z : Value × List Value => True) (fun z => z.1) (fun z M => blk b00 83 (world_World.cs a0 z00a z00b z00c z00d z00e z00f z00g z00h z00i z00j z00k) :: bx chain_Chain.bd chain_Chain.fp z00a a0.sides.a0 :: bx chain_Chain.bd chain_Chain.fp z00b a0.sides.a1 :: bx client_Client.bd client_Client.fp z00c a0.clients.a0 :: bx client_Client.bd client_Client.fp z00d a0.clients.a1 :: bx router_Router.bd router_Router.fp z00e a0.routers.a0 :: bx router_Router.bd router_Router.fp z00f a0.routers.a1 :: bx relay_Relay.bd relay_Relay.fp z00g a0.relay :: mb (fun (x : world_place) => Ag x.cs) (fun (x : Int) => N x) z00h a0.since :: mb (fun (x : world_word) => Ag x.cs) (fun (x : Bool) => Bo x) z00i a0.told :: mb (fun (x : ByteArray) => Value.string x) (fun (x : api_Inv) => Ag x.cs) z00j a0.keys :: mb (fun (x : ByteArray) => Value.string x) (fun (x : world_data) => Ag x.cs) z00k a0.digests ::  M) (fun z M => rows 2 z.1 (List.zipWith api_Mail.cs r z.2) :: gz api_Mail.g r z.2 ::  M) := by
  refine .of func14 rfl ntmps14 rfl fun w0 D0 G0 => ?_
  unfold world_World_Mail at h
  refine .seq <| .reg rfl <| .op0 (OpP.toV (P.asg .k)) rfl <| .nil <| .then <| .seq <| .seq <| .reg rfl <| .opp (P.mov .g0) rfl <| .opg (G.call call31 (.cons .t0 .nil) (S_world_World_is b00 a0 z00a z00b z00c z00d z00e z00f z00g z00h z00i z00j z00k _ rfl) (.cons .k0 (.cons .k0 (.cons .k0 (.cons .k0 (.cons .k0 (.cons .k0 (.cons .k0 (.cons .k0 (.cons .k0 (.cons .k0 (.cons .k0 (.cons .k0 .nil)))))))))))) .nil (fun _ _ => rfl) (fun _ _ => rfl) rfl) rfl fun _ _ => .opp (P.not .t0) rfl <| .nil ?_
  refine .then <| .cond .t0 (fun c1 => ?_) (fun c1 => ?_)
  · rw [if_pos c1] at h
    refine .seq <| .reg rfl <| .opp (P.asg .k) rfl <| .nil <| .then <| .ret <| .thr ?_
    cases h
    exact .rnil0 2 <| .gzn (G := api_Mail.g) <| .finw ⟨nilSl, []⟩ (.r1 rfl (.tmp .g0)) trivial (Ls.of (.cons .k0 (.cons .k0 (.cons .k0 (.cons .k0 (.cons .k0 (.cons .k0 (.cons .k0 (.cons .k0 (.cons .k0 (.cons .k0 (.cons .k0 (.cons .k0 .nil))))))))))))) (.cons Mm.m1 (.cons Mm.m0 .nil))
  · rw [if_neg (ne_true_of_eq_false c1)] at h
    refine .skip <| .then <| .seq <| .draw 23 (.on 0 .pu (.on 1 .pu (.on 2 .pu (.on 4 .pu (.on 5 .pu (.on 6 .pu (.on 9 .pu (.on 10 .pu (.on 11 .pu (.on 16 .pu (.on 17 .pu (.on 18 .pu (.on 3 .ld (.on 7 .ld (.on 8 .ld (.on 12 .ld (.on 13 .ld (.on 14 .pu (.on 19 .ld (.on 20 .ld (.on 15 .go (.on 21 .pu (.on 22 .go .nl))))))))))))))))))))))) follows_mixed (.thn .body) (by kernel_rfl) <| .dpu rfl (.n rfl) (P.mov .g0) rfl rfl <| .dpu rfl (.n rfl) (P.nilc .t0) rfl rfl <| .dpu rfl (.n rfl) (P.fa .t0 fa_83_5 rfl) rfl rfl <| .dpu rfl (.n rfl) (P.mov .g1) rfl rfl <| .dpu rfl (.n rfl) (P.nilc .t0) rfl rfl <| .dpu rfl (.n rfl) (P.fa .t0 fa_83_5 rfl) rfl rfl <| .dpu rfl (.n rfl) (P.mov .g2) rfl rfl <| .dpu rfl (.n rfl) (P.nilc .t0) rfl rfl ?_
    refine .dpu rfl (.n rfl) (P.fa .t0 fa_83_5 rfl) rfl rfl <| .dpu rfl (.n rfl) (P.mov .t3) rfl rfl <| .dpu rfl (.n rfl) (P.nilc .t0) rfl rfl <| .dpu rfl (.n rfl) (P.fa .t0 fa_83_5 rfl) rfl rfl <| .dld rfl (.n rfl) (V.ld (v := nilSl) .t3 .k0 (.one isAgg46 rfl)) (fun _ h => h) rfl rfl <| .dld rfl (.n rfl) (V.ld (v := nilSl) .t3 .k0 (.one isAgg46 rfl)) (fun _ h => h) rfl rfl <| .dld rfl (.n rfl) (OpP.toV (P.lenn .t0 runUnderlying46)) (fun _ h => h) rfl rfl <| .dld rfl (.n rfl) (V.ld (v := nilSl) .t3 .k0 (.one isAgg46 rfl)) (fun _ h => h) rfl rfl <| .dld rfl (.n rfl) (OpP.toV (P.lenn .t0 runUnderlying46)) (fun _ h => h) rfl rfl <| .dpu rfl (.n rfl) (P.sln3 .t2 .t1 .t0 runUnderlying46 sizeOf123) rfl rfl <| .dld rfl (.n rfl) (V.ld (v := nilSl) .t1 .k0 (.one isAgg46 rfl)) (fun _ h => h) rfl rfl <| .dld rfl (.n rfl) (OpP.toV (P.lenn .t0 runUnderlying46)) (fun _ h => h) rfl rfl ?_
    refine .dgo rfl (.n rfl) (G.call call35 (.cons .t1 (.cons .k .nil)) (S_net_Twin_nil 0 _ rfl) .nil .nil (fun _ _ => rfl) (fun _ _ => rfl) rfl) (.inr fun _ _ _ h => (h.imp (Ls.of (.cons .k1 (.cons .k1 (.cons .k1 (.cons .k1 (.cons .k1 (.cons .k1 (.cons .k1 (.cons .k1 (.cons .k1 (.cons .k1 (.cons .k1 (.cons .k1 .nil)))))))))))))).ro Rs.nil) fun ⟨u2, w3⟩ _ => .frz .k0 <| .gzl Mm.m1 fun hz4 => ?_
    obtain ⟨hb5, h⟩ := grd_eq h
    refine .slnq Mm.m0 fun hq9 => ?_
    simp only [zip_len hz4] at hq9
    refine .dpu rfl (.n rfl) (P.slp (li := none) (hj := (some 0)) (mk := none) .t0 .none (.some .t0) .none hq9 runUnderlying46 sizeOf123 (by simpa [zip_len hz4] using hb5)) rfl rfl <| .slgen Mm.m0 (by simpa [zip_len hz4] using hb5) fun u6 => .rhead (q := rows 2 u6 (List.zipWith api_Mail.cs (slc (net_Twin_nil 0) 0 (0 : Int).toNat) (slc w3 0 (0 : Int).toNat))) (fun _ hh => by simpa [slc_zip, zip_len hz4] using hh) <| .gzs 0 (0 : Int).toNat Mm.m2 <| .dgo rfl (.n rfl) (OpV.g (OpP.toV (P.asg .t0)) rfl) (.inr fun _ _ _ h => (h.imp (Ls.of (.cons .k0 (.cons .k0 (.cons .k0 (.cons .k0 (.cons .k0 (.cons .k0 (.cons .k0 (.cons .k0 (.cons .k0 (.cons .k0 (.cons .k0 (.cons .k0 .nil)))))))))))))).ro Rs.nil) fun _ _ => .dnil <| .then <| .ret ?_
    cases h
    exact .finw ⟨u6, (slc w3 0 (0 : Int).toNat)⟩ (.r1 rfl (.tmp .g0)) trivial (Ls.of (.cons .k0 (.cons .k0 (.cons .k0 (.cons .k0 (.cons .k0 (.cons .k0 (.cons .k0 (.cons .k0 (.cons .k0 (.cons .k0 (.cons .k0 (.cons .k0 .nil))))))))))))) (.cons Mm.m1 (.cons Mm.m0 .nil))
attribute [irreducible] world_World_Mail
noncomputable def world_World_client (a0 : world_World) (a1 : Int) : Option (Nat) :=
  thn (if (decide (a1 < 0)) = true then true else (decide (a1 ≥ 2))) fun (y1 : Bool) => if y1 = true then (some 0) else (if (decide (a1 = 0)) = true then (some 1) else (if (decide (a1 = 1)) = true then (some 2) else none))
set_option maxRecDepth 20000 in
set_option maxHeartbeats 8000000 in
theorem S_world_World_client (b00 : Nat) (a0 : world_World) (z00a z00b z00c z00d z00e z00f z00g z00h z00i z00j z00k : Value) (a1 : Int) (r : Nat) (h : world_World_client a0 a1 = some r) :
    SpecF Tryz.prog 44 [pt b00 0, N a1] [blk b00 83 (world_World.cs a0 z00a z00b z00c z00d z00e z00f z00g z00h z00i z00j z00k), bx chain_Chain.bd chain_Chain.fp z00a a0.sides.a0, bx chain_Chain.bd chain_Chain.fp z00b a0.sides.a1, bx client_Client.bd client_Client.fp z00c a0.clients.a0, bx client_Client.bd client_Client.fp z00d a0.clients.a1, bx router_Router.bd router_Router.fp z00e a0.routers.a0, bx router_Router.bd router_Router.fp z00f a0.routers.a1, bx relay_Relay.bd relay_Relay.fp z00g a0.relay, mb (fun (x : world_place) => Ag x.cs) (fun (x : Int) => N x) z00h a0.since, mb (fun (x : world_word) => Ag x.cs) (fun (x : Bool) => Bo x) z00i a0.told, mb (fun (x : ByteArray) => Value.string x) (fun (x : api_Inv) => Ag x.cs) z00j a0.keys, mb (fun (x : ByteArray) => Value.string x) (fun (x : world_data) => Ag x.cs) z00k a0.digests] [] (fun z : Unit => True) (fun z => pk r 0 [nilp, z00c, z00d]) (fun z M => blk b00 83 (world_World.cs a0 z00a z00b z00c z00d z00e z00f z00g z00h z00i z00j z00k) :: bx chain_Chain.bd chain_Chain.fp z00a a0.sides.a0 :: bx chain_Chain.bd chain_Chain.fp z00b a0.sides.a1 :: bx client_Client.bd client_Client.fp z00c a0.clients.a0 :: bx client_Client.bd client_Client.fp z00d a0.clients.a1 :: bx router_Router.bd router_Router.fp z00e a0.routers.a0 :: bx router_Router.bd router_Router.fp z00f a0.routers.a1 :: bx relay_Relay.bd relay_Relay.fp z00g a0.relay :: mb (fun (x : world_place) => Ag x.cs) (fun (x : Int) => N x) z00h a0.since :: mb (fun (x : world_word) => Ag x.cs) (fun (x : Bool) => Bo x) z00i a0.told :: mb (fun (x : ByteArray) => Value.string x) (fun (x : api_Inv) => Ag x.cs) z00j a0.keys :: mb (fun (x : ByteArray) => Value.string x) (fun (x : world_data) => Ag x.cs) z00k a0.digests ::  M) (fun z M =>  M) := by
  refine .of func44 rfl ntmps44 rfl fun w0 D0 G0 => ?_
  unfold world_World_client at h
  refine .seq <| .reg rfl <| .op0 (OpP.toV (P.asg .k)) rfl <| .nil <| .then <| .seq ?_
  obtain ⟨y1, hj3, h⟩ := thn_eq h
  refine .cutx (γ := Unit) (E1 := fun z2 => [(10, Bo y1), (0, pt b00 0), (1, N a1)]) (L1 := fun z2 => [blk b00 83 (world_World.cs a0 z00a z00b z00c z00d z00e z00f z00g z00h z00i z00j z00k), bx chain_Chain.bd chain_Chain.fp z00a a0.sides.a0, bx chain_Chain.bd chain_Chain.fp z00b a0.sides.a1, bx client_Client.bd client_Client.fp z00c a0.clients.a0, bx client_Client.bd client_Client.fp z00d a0.clients.a1, bx router_Router.bd router_Router.fp z00e a0.routers.a0, bx router_Router.bd router_Router.fp z00f a0.routers.a1, bx relay_Relay.bd relay_Relay.fp z00g a0.relay, mb (fun (x : world_place) => Ag x.cs) (fun (x : Int) => N x) z00h a0.since, mb (fun (x : world_word) => Ag x.cs) (fun (x : Bool) => Bo x) z00i a0.told, mb (fun (x : ByteArray) => Value.string x) (fun (x : api_Inv) => Ag x.cs) z00j a0.keys, mb (fun (x : ByteArray) => Value.string x) (fun (x : world_data) => Ag x.cs) z00k a0.digests]) (R1 := fun z2 => []) ?_ (fun z2 => ?_)
  · clear h
    refine .reg rfl <| .opp (P.mov .g1) rfl <| .opp (P.bin .t0 .k .lss) rfl <| .opp (P.mov .t0) rfl <| .split .k0 (fun c4 => ?_) (fun c4 => ?_)
    · rw [if_pos c4] at hj3
      refine .gno rfl .g0 rfl rfl <| .gno rfl .g0 rfl rfl <| .opp (P.pickT .t0 .k) rfl <| .nil ?_
      subst hj3
      exact .stj () (.cons Mm.m0 (.cons Mm.m1 (.cons Mm.m2 .nil))) (.of (.cons .k0 (.cons .k0 (.cons .k0 (.cons .k0 (.cons .k0 (.cons .k0 (.cons .k0 (.cons .k0 (.cons .k0 (.cons .k0 (.cons .k0 (.cons .k0 .nil))))))))))))) .nil
    · rw [if_neg (ne_true_of_eq_false c4)] at hj3
      refine .gyes rfl .g0 <| .opp (P.mov .g2) rfl <| .gyes rfl .g1 <| .opp (P.bin .t0 .k .geq) rfl <| .opp (P.pickF .t1 .t0) rfl <| .nil ?_
      subst hj3
      exact .stj () (.cons Mm.m0 (.cons Mm.m1 (.cons Mm.m2 .nil))) (.of (.cons .k0 (.cons .k0 (.cons .k0 (.cons .k0 (.cons .k0 (.cons .k0 (.cons .k0 (.cons .k0 (.cons .k0 (.cons .k0 (.cons .k0 (.cons .k0 .nil))))))))))))) .nil
  · clear hj3
    refine .cond .t0 (fun c5 => ?_) (fun c5 => ?_)
    · rw [if_pos c5] at h
      refine .seq <| .reg rfl <| .opp (P.asg .k) rfl <| .nil <| .then <| .ret <| .thr ?_
      cases h
      exact .finw () (.r1 rfl (.tmp .g0)) trivial (Ls.of (.cons .k0 (.cons .k0 (.cons .k0 (.cons .k0 (.cons .k0 (.cons .k0 (.cons .k0 (.cons .k0 (.cons .k0 (.cons .k0 (.cons .k0 (.cons .k0 .nil))))))))))))) .nil
    · rw [if_neg (ne_true_of_eq_false c5)] at h
      refine .skip <| .then <| .seq <| .reg rfl <| .opp (P.mov .t0) rfl <| .opp (P.mov .t1) rfl <| .opp (P.nilc .t1) rfl <| .opp (P.fa .t0 fa_83_2 rfl) rfl <| .ixS 0 .k1 (fun c6 => ?_) (fun c6 => ?_)
      · rw [if_pos c6] at h
        refine .opp (P.iac (i := 0) .t0 rfl .t0 runUnderlying72 sizeOf52 rfl rfl) rfl <| .op (V.ld (v := z00c) .t0 .k0 (.one isAgg52 rfl)) rfl <| .opp (P.asg .t0) rfl <| .nil <| .then <| .ret ?_
        cases h
        exact .finw () (.r1 rfl (.tmp .g0)) trivial (Ls.of (.cons .k0 (.cons .k0 (.cons .k0 (.cons .k0 (.cons .k0 (.cons .k0 (.cons .k0 (.cons .k0 (.cons .k0 (.cons .k0 (.cons .k0 (.cons .k0 .nil))))))))))))) .nil
      · rw [if_neg (ne_true_of_eq_false c6)] at h
        refine .ixS 1 .k0 (fun c7 => ?_) (fun c7 => ?_)
        · rw [if_pos c7] at h
          refine .opp (P.iac (i := 1) .t0 rfl .t0 runUnderlying72 sizeOf52 rfl rfl) rfl <| .op (V.ld (v := z00d) .t0 .k0 (.one isAgg52 rfl)) rfl <| .opp (P.asg .t0) rfl <| .nil <| .then <| .ret ?_
          cases h
          exact .finw () (.r1 rfl (.tmp .g0)) trivial (Ls.of (.cons .k0 (.cons .k0 (.cons .k0 (.cons .k0 (.cons .k0 (.cons .k0 (.cons .k0 (.cons .k0 (.cons .k0 (.cons .k0 (.cons .k0 (.cons .k0 .nil))))))))))))) .nil
        · rw [if_neg (ne_true_of_eq_false c7)] at h
          cases h
attribute [irreducible] world_World_client
noncomputable def world_World_Client (a0 : world_World) (a1 : Int) : Option (Nat) :=
  if (!(world_World_is a0)) = true then (some 0) else (Option.bind (world_World_client a0 a1) fun r2 => some r2)
set_option maxRecDepth 20000 in
set_option maxHeartbeats 8000000 in
theorem S_world_World_Client (b00 : Nat) (a0 : world_World) (z00a z00b z00c z00d z00e z00f z00g z00h z00i z00j z00k : Value) (a1 : Int) (r : Nat) (h : world_World_Client a0 a1 = some r) :
    SpecF Tryz.prog 19 [pt b00 0, N a1] [blk b00 83 (world_World.cs a0 z00a z00b z00c z00d z00e z00f z00g z00h z00i z00j z00k), bx chain_Chain.bd chain_Chain.fp z00a a0.sides.a0, bx chain_Chain.bd chain_Chain.fp z00b a0.sides.a1, bx client_Client.bd client_Client.fp z00c a0.clients.a0, bx client_Client.bd client_Client.fp z00d a0.clients.a1, bx router_Router.bd router_Router.fp z00e a0.routers.a0, bx router_Router.bd router_Router.fp z00f a0.routers.a1, bx relay_Relay.bd relay_Relay.fp z00g a0.relay, mb (fun (x : world_place) => Ag x.cs) (fun (x : Int) => N x) z00h a0.since, mb (fun (x : world_word) => Ag x.cs) (fun (x : Bool) => Bo x) z00i a0.told, mb (fun (x : ByteArray) => Value.string x) (fun (x : api_Inv) => Ag x.cs) z00j a0.keys, mb (fun (x : ByteArray) => Value.string x) (fun (x : world_data) => Ag x.cs) z00k a0.digests] [] (fun z : Unit => True) (fun z => pk r 0 [nilp, z00c, z00d]) (fun z M => blk b00 83 (world_World.cs a0 z00a z00b z00c z00d z00e z00f z00g z00h z00i z00j z00k) :: bx chain_Chain.bd chain_Chain.fp z00a a0.sides.a0 :: bx chain_Chain.bd chain_Chain.fp z00b a0.sides.a1 :: bx client_Client.bd client_Client.fp z00c a0.clients.a0 :: bx client_Client.bd client_Client.fp z00d a0.clients.a1 :: bx router_Router.bd router_Router.fp z00e a0.routers.a0 :: bx router_Router.bd router_Router.fp z00f a0.routers.a1 :: bx relay_Relay.bd relay_Relay.fp z00g a0.relay :: mb (fun (x : world_place) => Ag x.cs) (fun (x : Int) => N x) z00h a0.since :: mb (fun (x : world_word) => Ag x.cs) (fun (x : Bool) => Bo x) z00i a0.told :: mb (fun (x : ByteArray) => Value.string x) (fun (x : api_Inv) => Ag x.cs) z00j a0.keys :: mb (fun (x : ByteArray) => Value.string x) (fun (x : world_data) => Ag x.cs) z00k a0.digests ::  M) (fun z M =>  M) := by
  refine .of func19 rfl ntmps19 rfl fun w0 D0 G0 => ?_
  unfold world_World_Client at h
  refine .seq <| .reg rfl <| .op0 (OpP.toV (P.asg .k)) rfl <| .nil <| .then <| .seq <| .seq <| .reg rfl <| .opp (P.mov .g0) rfl <| .opg (G.call call31 (.cons .t0 .nil) (S_world_World_is b00 a0 z00a z00b z00c z00d z00e z00f z00g z00h z00i z00j z00k _ rfl) (.cons .k0 (.cons .k0 (.cons .k0 (.cons .k0 (.cons .k0 (.cons .k0 (.cons .k0 (.cons .k0 (.cons .k0 (.cons .k0 (.cons .k0 (.cons .k0 .nil)))))))))))) .nil (fun _ _ => rfl) (fun _ _ => rfl) rfl) rfl fun _ _ => .opp (P.not .t0) rfl <| .nil ?_
  refine .then <| .cond .t0 (fun c1 => ?_) (fun c1 => ?_)
  · rw [if_pos c1] at h
    refine .seq <| .reg rfl <| .opp (P.asg .k) rfl <| .nil <| .then <| .ret <| .thr ?_
    cases h
    exact .finw () (.r1 rfl (.tmp .g0)) trivial (Ls.of (.cons .k0 (.cons .k0 (.cons .k0 (.cons .k0 (.cons .k0 (.cons .k0 (.cons .k0 (.cons .k0 (.cons .k0 (.cons .k0 (.cons .k0 (.cons .k0 .nil))))))))))))) .nil
  · rw [if_neg (ne_true_of_eq_false c1)] at h
    refine .skip <| .then <| .seq <| .reg rfl <| .opp (P.mov .t0) rfl <| .opp (P.mov .t1) rfl ?_
    obtain ⟨r2, hr3, h⟩ := bnd_eq h
    refine .opg (G.call call44 (.cons .t1 (.cons .t0 .nil)) (S_world_World_client b00 a0 z00a z00b z00c z00d z00e z00f z00g z00h z00i z00j z00k a1 r2 hr3) (.cons .k0 (.cons .k0 (.cons .k0 (.cons .k0 (.cons .k0 (.cons .k0 (.cons .k0 (.cons .k0 (.cons .k0 (.cons .k0 (.cons .k0 (.cons .k0 .nil)))))))))))) .nil (fun _ _ => rfl) (fun _ _ => rfl) rfl) rfl fun _ _ => .opp (P.asg .t0) rfl <| .nil <| .then <| .ret ?_
    cases h
    exact .finw () (.r1 rfl (.tmp .g0)) trivial (Ls.of (.cons .k0 (.cons .k0 (.cons .k0 (.cons .k0 (.cons .k0 (.cons .k0 (.cons .k0 (.cons .k0 (.cons .k0 (.cons .k0 (.cons .k0 (.cons .k0 .nil))))))))))))) .nil
attribute [irreducible] world_World_Client
noncomputable def world_World_router (a0 : world_World) (a1 : Int) : Option (Nat) :=
  thn (if (decide (a1 < 2)) = true then true else (decide (a1 ≥ 4))) fun (y1 : Bool) => if y1 = true then (some 0) else (if (decide (IntKind.i64.wrap (a1 - 2) = 0)) = true then (some 1) else (if (decide (IntKind.i64.wrap (a1 - 2) = 1)) = true then (some 2) else none))
set_option maxRecDepth 20000 in
set_option maxHeartbeats 8000000 in
theorem S_world_World_router (b00 : Nat) (a0 : world_World) (z00a z00b z00c z00d z00e z00f z00g z00h z00i z00j z00k : Value) (a1 : Int) (r : Nat) (h : world_World_router a0 a1 = some r) :
    SpecF Tryz.prog 45 [pt b00 0, N a1] [blk b00 83 (world_World.cs a0 z00a z00b z00c z00d z00e z00f z00g z00h z00i z00j z00k), bx chain_Chain.bd chain_Chain.fp z00a a0.sides.a0, bx chain_Chain.bd chain_Chain.fp z00b a0.sides.a1, bx client_Client.bd client_Client.fp z00c a0.clients.a0, bx client_Client.bd client_Client.fp z00d a0.clients.a1, bx router_Router.bd router_Router.fp z00e a0.routers.a0, bx router_Router.bd router_Router.fp z00f a0.routers.a1, bx relay_Relay.bd relay_Relay.fp z00g a0.relay, mb (fun (x : world_place) => Ag x.cs) (fun (x : Int) => N x) z00h a0.since, mb (fun (x : world_word) => Ag x.cs) (fun (x : Bool) => Bo x) z00i a0.told, mb (fun (x : ByteArray) => Value.string x) (fun (x : api_Inv) => Ag x.cs) z00j a0.keys, mb (fun (x : ByteArray) => Value.string x) (fun (x : world_data) => Ag x.cs) z00k a0.digests] [] (fun z : Unit => True) (fun z => pk r 0 [nilp, z00e, z00f]) (fun z M => blk b00 83 (world_World.cs a0 z00a z00b z00c z00d z00e z00f z00g z00h z00i z00j z00k) :: bx chain_Chain.bd chain_Chain.fp z00a a0.sides.a0 :: bx chain_Chain.bd chain_Chain.fp z00b a0.sides.a1 :: bx client_Client.bd client_Client.fp z00c a0.clients.a0 :: bx client_Client.bd client_Client.fp z00d a0.clients.a1 :: bx router_Router.bd router_Router.fp z00e a0.routers.a0 :: bx router_Router.bd router_Router.fp z00f a0.routers.a1 :: bx relay_Relay.bd relay_Relay.fp z00g a0.relay :: mb (fun (x : world_place) => Ag x.cs) (fun (x : Int) => N x) z00h a0.since :: mb (fun (x : world_word) => Ag x.cs) (fun (x : Bool) => Bo x) z00i a0.told :: mb (fun (x : ByteArray) => Value.string x) (fun (x : api_Inv) => Ag x.cs) z00j a0.keys :: mb (fun (x : ByteArray) => Value.string x) (fun (x : world_data) => Ag x.cs) z00k a0.digests ::  M) (fun z M =>  M) := by
  refine .of func45 rfl ntmps45 rfl fun w0 D0 G0 => ?_
  unfold world_World_router at h
  refine .seq <| .reg rfl <| .op0 (OpP.toV (P.asg .k)) rfl <| .nil <| .then <| .seq ?_
  obtain ⟨y1, hj3, h⟩ := thn_eq h
  refine .cutx (γ := Unit) (E1 := fun z2 => [(10, Bo y1), (0, pt b00 0), (1, N a1)]) (L1 := fun z2 => [blk b00 83 (world_World.cs a0 z00a z00b z00c z00d z00e z00f z00g z00h z00i z00j z00k), bx chain_Chain.bd chain_Chain.fp z00a a0.sides.a0, bx chain_Chain.bd chain_Chain.fp z00b a0.sides.a1, bx client_Client.bd client_Client.fp z00c a0.clients.a0, bx client_Client.bd client_Client.fp z00d a0.clients.a1, bx router_Router.bd router_Router.fp z00e a0.routers.a0, bx router_Router.bd router_Router.fp z00f a0.routers.a1, bx relay_Relay.bd relay_Relay.fp z00g a0.relay, mb (fun (x : world_place) => Ag x.cs) (fun (x : Int) => N x) z00h a0.since, mb (fun (x : world_word) => Ag x.cs) (fun (x : Bool) => Bo x) z00i a0.told, mb (fun (x : ByteArray) => Value.string x) (fun (x : api_Inv) => Ag x.cs) z00j a0.keys, mb (fun (x : ByteArray) => Value.string x) (fun (x : world_data) => Ag x.cs) z00k a0.digests]) (R1 := fun z2 => []) ?_ (fun z2 => ?_)
  · clear h
    refine .reg rfl <| .opp (P.mov .g1) rfl <| .opp (P.bin .t0 .k .lss) rfl <| .opp (P.mov .t0) rfl <| .split .k0 (fun c4 => ?_) (fun c4 => ?_)
    · rw [if_pos c4] at hj3
      refine .gno rfl .g0 rfl rfl <| .gno rfl .g0 rfl rfl <| .opp (P.pickT .t0 .k) rfl <| .nil ?_
      subst hj3
      exact .stj () (.cons Mm.m0 (.cons Mm.m1 (.cons Mm.m2 .nil))) (.of (.cons .k0 (.cons .k0 (.cons .k0 (.cons .k0 (.cons .k0 (.cons .k0 (.cons .k0 (.cons .k0 (.cons .k0 (.cons .k0 (.cons .k0 (.cons .k0 .nil))))))))))))) .nil
    · rw [if_neg (ne_true_of_eq_false c4)] at hj3
      refine .gyes rfl .g0 <| .opp (P.mov .g2) rfl <| .gyes rfl .g1 <| .opp (P.bin .t0 .k .geq) rfl <| .opp (P.pickF .t1 .t0) rfl <| .nil ?_
      subst hj3
      exact .stj () (.cons Mm.m0 (.cons Mm.m1 (.cons Mm.m2 .nil))) (.of (.cons .k0 (.cons .k0 (.cons .k0 (.cons .k0 (.cons .k0 (.cons .k0 (.cons .k0 (.cons .k0 (.cons .k0 (.cons .k0 (.cons .k0 (.cons .k0 .nil))))))))))))) .nil
  · clear hj3
    refine .cond .t0 (fun c5 => ?_) (fun c5 => ?_)
    · rw [if_pos c5] at h
      refine .seq <| .reg rfl <| .opp (P.asg .k) rfl <| .nil <| .then <| .ret <| .thr ?_
      cases h
      exact .finw () (.r1 rfl (.tmp .g0)) trivial (Ls.of (.cons .k0 (.cons .k0 (.cons .k0 (.cons .k0 (.cons .k0 (.cons .k0 (.cons .k0 (.cons .k0 (.cons .k0 (.cons .k0 (.cons .k0 (.cons .k0 .nil))))))))))))) .nil
    · rw [if_neg (ne_true_of_eq_false c5)] at h
      refine .skip <| .then <| .seq <| .reg rfl <| .opp (P.mov .t0) rfl <| .opp (P.mov .t1) rfl <| .opp (P.bin .t0 .k .sub) rfl <| .opp (P.nilc .t1) rfl <| .opp (P.fa .t0 fa_83_3 rfl) rfl <| .ixS 0 .k1 (fun c6 => ?_) (fun c6 => ?_)
      · rw [if_pos c6] at h
        refine .opp (P.iac (i := 0) .t0 rfl .t0 runUnderlying73 sizeOf54 rfl rfl) rfl <| .op (V.ld (v := z00e) .t0 .k0 (.one isAgg54 rfl)) rfl <| .opp (P.asg .t0) rfl <| .nil <| .then <| .ret ?_
        cases h
        exact .finw () (.r1 rfl (.tmp .g0)) trivial (Ls.of (.cons .k0 (.cons .k0 (.cons .k0 (.cons .k0 (.cons .k0 (.cons .k0 (.cons .k0 (.cons .k0 (.cons .k0 (.cons .k0 (.cons .k0 (.cons .k0 .nil))))))))))))) .nil
      · rw [if_neg (ne_true_of_eq_false c6)] at h
        refine .ixS 1 .k0 (fun c7 => ?_) (fun c7 => ?_)
        · rw [if_pos c7] at h
          refine .opp (P.iac (i := 1) .t0 rfl .t0 runUnderlying73 sizeOf54 rfl rfl) rfl <| .op (V.ld (v := z00f) .t0 .k0 (.one isAgg54 rfl)) rfl <| .opp (P.asg .t0) rfl <| .nil <| .then <| .ret ?_
          cases h
          exact .finw () (.r1 rfl (.tmp .g0)) trivial (Ls.of (.cons .k0 (.cons .k0 (.cons .k0 (.cons .k0 (.cons .k0 (.cons .k0 (.cons .k0 (.cons .k0 (.cons .k0 (.cons .k0 (.cons .k0 (.cons .k0 .nil))))))))))))) .nil
        · rw [if_neg (ne_true_of_eq_false c7)] at h
          cases h
attribute [irreducible] world_World_router
noncomputable def world_World_Router (a0 : world_World) (a1 : Int) : Option (Nat) :=
  if (!(world_World_is a0)) = true then (some 0) else (Option.bind (world_World_router a0 a1) fun r2 => some r2)
set_option maxRecDepth 20000 in
set_option maxHeartbeats 8000000 in
theorem S_world_World_Router (b00 : Nat) (a0 : world_World) (z00a z00b z00c z00d z00e z00f z00g z00h z00i z00j z00k : Value) (a1 : Int) (r : Nat) (h : world_World_Router a0 a1 = some r) :
    SpecF Tryz.prog 20 [pt b00 0, N a1] [blk b00 83 (world_World.cs a0 z00a z00b z00c z00d z00e z00f z00g z00h z00i z00j z00k), bx chain_Chain.bd chain_Chain.fp z00a a0.sides.a0, bx chain_Chain.bd chain_Chain.fp z00b a0.sides.a1, bx client_Client.bd client_Client.fp z00c a0.clients.a0, bx client_Client.bd client_Client.fp z00d a0.clients.a1, bx router_Router.bd router_Router.fp z00e a0.routers.a0, bx router_Router.bd router_Router.fp z00f a0.routers.a1, bx relay_Relay.bd relay_Relay.fp z00g a0.relay, mb (fun (x : world_place) => Ag x.cs) (fun (x : Int) => N x) z00h a0.since, mb (fun (x : world_word) => Ag x.cs) (fun (x : Bool) => Bo x) z00i a0.told, mb (fun (x : ByteArray) => Value.string x) (fun (x : api_Inv) => Ag x.cs) z00j a0.keys, mb (fun (x : ByteArray) => Value.string x) (fun (x : world_data) => Ag x.cs) z00k a0.digests] [] (fun z : Unit => True) (fun z => pk r 0 [nilp, z00e, z00f]) (fun z M => blk b00 83 (world_World.cs a0 z00a z00b z00c z00d z00e z00f z00g z00h z00i z00j z00k) :: bx chain_Chain.bd chain_Chain.fp z00a a0.sides.a0 :: bx chain_Chain.bd chain_Chain.fp z00b a0.sides.a1 :: bx client_Client.bd client_Client.fp z00c a0.clients.a0 :: bx client_Client.bd client_Client.fp z00d a0.clients.a1 :: bx router_Router.bd router_Router.fp z00e a0.routers.a0 :: bx router_Router.bd router_Router.fp z00f a0.routers.a1 :: bx relay_Relay.bd relay_Relay.fp z00g a0.relay :: mb (fun (x : world_place) => Ag x.cs) (fun (x : Int) => N x) z00h a0.since :: mb (fun (x : world_word) => Ag x.cs) (fun (x : Bool) => Bo x) z00i a0.told :: mb (fun (x : ByteArray) => Value.string x) (fun (x : api_Inv) => Ag x.cs) z00j a0.keys :: mb (fun (x : ByteArray) => Value.string x) (fun (x : world_data) => Ag x.cs) z00k a0.digests ::  M) (fun z M =>  M) := by
  refine .of func20 rfl ntmps20 rfl fun w0 D0 G0 => ?_
  unfold world_World_Router at h
  refine .seq <| .reg rfl <| .op0 (OpP.toV (P.asg .k)) rfl <| .nil <| .then <| .seq <| .seq <| .reg rfl <| .opp (P.mov .g0) rfl <| .opg (G.call call31 (.cons .t0 .nil) (S_world_World_is b00 a0 z00a z00b z00c z00d z00e z00f z00g z00h z00i z00j z00k _ rfl) (.cons .k0 (.cons .k0 (.cons .k0 (.cons .k0 (.cons .k0 (.cons .k0 (.cons .k0 (.cons .k0 (.cons .k0 (.cons .k0 (.cons .k0 (.cons .k0 .nil)))))))))))) .nil (fun _ _ => rfl) (fun _ _ => rfl) rfl) rfl fun _ _ => .opp (P.not .t0) rfl <| .nil ?_
  refine .then <| .cond .t0 (fun c1 => ?_) (fun c1 => ?_)
  · rw [if_pos c1] at h
    refine .seq <| .reg rfl <| .opp (P.asg .k) rfl <| .nil <| .then <| .ret <| .thr ?_
    cases h
    exact .finw () (.r1 rfl (.tmp .g0)) trivial (Ls.of (.cons .k0 (.cons .k0 (.cons .k0 (.cons .k0 (.cons .k0 (.cons .k0 (.cons .k0 (.cons .k0 (.cons .k0 (.cons .k0 (.cons .k0 (.cons .k0 .nil))))))))))))) .nil
  · rw [if_neg (ne_true_of_eq_false c1)] at h
    refine .skip <| .then <| .seq <| .reg rfl <| .opp (P.mov .t0) rfl <| .opp (P.mov .t1) rfl ?_
    obtain ⟨r2, hr3, h⟩ := bnd_eq h
    refine .opg (G.call call45 (.cons .t1 (.cons .t0 .nil)) (S_world_World_router b00 a0 z00a z00b z00c z00d z00e z00f z00g z00h z00i z00j z00k a1 r2 hr3) (.cons .k0 (.cons .k0 (.cons .k0 (.cons .k0 (.cons .k0 (.cons .k0 (.cons .k0 (.cons .k0 (.cons .k0 (.cons .k0 (.cons .k0 (.cons .k0 .nil)))))))))))) .nil (fun _ _ => rfl) (fun _ _ => rfl) rfl) rfl fun _ _ => .opp (P.asg .t0) rfl <| .nil <| .then <| .ret ?_
    cases h
    exact .finw () (.r1 rfl (.tmp .g0)) trivial (Ls.of (.cons .k0 (.cons .k0 (.cons .k0 (.cons .k0 (.cons .k0 (.cons .k0 (.cons .k0 (.cons .k0 (.cons .k0 (.cons .k0 (.cons .k0 (.cons .k0 .nil))))))))))))) .nil
attribute [irreducible] world_World_Router
noncomputable def world_World_Late (a0 : world_World) (a1 : Int) : Option (Bool) :=
  Option.bind (if (world_World_is a0) = true then (if (world_within a1 4) = true then (Option.bind (at_ (A4_bool.list a0.late) a1) fun (x6 : Bool) => some x6) else (some false)) else (some false)) fun (y1 : Bool) => some y1
set_option maxRecDepth 20000 in
set_option maxHeartbeats 8000000 in
theorem S_world_World_Late (b00 : Nat) (a0 : world_World) (z00a z00b z00c z00d z00e z00f z00g z00h z00i z00j z00k : Value) (a1 : Int) (r : Bool) (h : world_World_Late a0 a1 = some r) :
    SpecF Tryz.prog 13 [pt b00 0, N a1] [blk b00 83 (world_World.cs a0 z00a z00b z00c z00d z00e z00f z00g z00h z00i z00j z00k), bx chain_Chain.bd chain_Chain.fp z00a a0.sides.a0, bx chain_Chain.bd chain_Chain.fp z00b a0.sides.a1, bx client_Client.bd client_Client.fp z00c a0.clients.a0, bx client_Client.bd client_Client.fp z00d a0.clients.a1, bx router_Router.bd router_Router.fp z00e a0.routers.a0, bx router_Router.bd router_Router.fp z00f a0.routers.a1, bx relay_Relay.bd relay_Relay.fp z00g a0.relay, mb (fun (x : world_place) => Ag x.cs) (fun (x : Int) => N x) z00h a0.since, mb (fun (x : world_word) => Ag x.cs) (fun (x : Bool) => Bo x) z00i a0.told, mb (fun (x : ByteArray) => Value.string x) (fun (x : api_Inv) => Ag x.cs) z00j a0.keys, mb (fun (x : ByteArray) => Value.string x) (fun (x : world_data) => Ag x.cs) z00k a0.digests] [] (fun z : Unit => True) (fun z => Bo r) (fun z M => blk b00 83 (world_World.cs a0 z00a z00b z00c z00d z00e z00f z00g z00h z00i z00j z00k) :: bx chain_Chain.bd chain_Chain.fp z00a a0.sides.a0 :: bx chain_Chain.bd chain_Chain.fp z00b a0.sides.a1 :: bx client_Client.bd client_Client.fp z00c a0.clients.a0 :: bx client_Client.bd client_Client.fp z00d a0.clients.a1 :: bx router_Router.bd router_Router.fp z00e a0.routers.a0 :: bx router_Router.bd router_Router.fp z00f a0.routers.a1 :: bx relay_Relay.bd relay_Relay.fp z00g a0.relay :: mb (fun (x : world_place) => Ag x.cs) (fun (x : Int) => N x) z00h a0.since :: mb (fun (x : world_word) => Ag x.cs) (fun (x : Bool) => Bo x) z00i a0.told :: mb (fun (x : ByteArray) => Value.string x) (fun (x : api_Inv) => Ag x.cs) z00j a0.keys :: mb (fun (x : ByteArray) => Value.string x) (fun (x : world_data) => Ag x.cs) z00k a0.digests ::  M) (fun z M =>  M) := by
  refine .of func13 rfl ntmps13 rfl fun w0 D0 G0 => ?_
  unfold world_World_Late at h
  refine .seq <| .reg rfl <| .op0 (OpP.toV (P.asg .k)) rfl <| .nil <| .then ?_
  obtain ⟨y1, hj3, h⟩ := bnd_eq h
  refine .cutx (γ := Unit) (E1 := fun z2 => [(4, Bo y1)]) (L1 := fun z2 => [blk b00 83 (world_World.cs a0 z00a z00b z00c z00d z00e z00f z00g z00h z00i z00j z00k), bx chain_Chain.bd chain_Chain.fp z00a a0.sides.a0, bx chain_Chain.bd chain_Chain.fp z00b a0.sides.a1, bx client_Client.bd client_Client.fp z00c a0.clients.a0, bx client_Client.bd client_Client.fp z00d a0.clients.a1, bx router_Router.bd router_Router.fp z00e a0.routers.a0, bx router_Router.bd router_Router.fp z00f a0.routers.a1, bx relay_Relay.bd relay_Relay.fp z00g a0.relay, mb (fun (x : world_place) => Ag x.cs) (fun (x : Int) => N x) z00h a0.since, mb (fun (x : world_word) => Ag x.cs) (fun (x : Bool) => Bo x) z00i a0.told, mb (fun (x : ByteArray) => Value.string x) (fun (x : api_Inv) => Ag x.cs) z00j a0.keys, mb (fun (x : ByteArray) => Value.string x) (fun (x : world_data) => Ag x.cs) z00k a0.digests]) (R1 := fun z2 => []) ?_ (fun z2 => ?_)
  · clear h
    refine .reg rfl <| .opp (P.mov .g0) rfl <| .opg (G.call call31 (.cons .t0 .nil) (S_world_World_is b00 a0 z00a z00b z00c z00d z00e z00f z00g z00h z00i z00j z00k _ rfl) (.cons .k0 (.cons .k0 (.cons .k0 (.cons .k0 (.cons .k0 (.cons .k0 (.cons .k0 (.cons .k0 (.cons .k0 (.cons .k0 (.cons .k0 (.cons .k0 .nil)))))))))))) .nil (fun _ _ => rfl) (fun _ _ => rfl) rfl) rfl fun _ _ => .opp (P.mov .t0) rfl <| .split .k0 (fun c4 => ?_) (fun c4 => ?_)
    · rw [if_pos c4] at hj3
      refine .gyes rfl .g0 <| .opp (P.mov .g2) rfl <| .gyes rfl .g1 <| .opg (G.call call32 (.cons .t0 (.cons .k .nil)) (S_world_within a1 4 _ rfl) .nil .nil (fun _ _ => rfl) (fun _ _ => rfl) rfl) rfl fun _ _ => .opp (P.pickT .t1 .t0) rfl <| .opp (P.mov .t0) rfl <| .split .k0 (fun c5 => ?_) (fun c5 => ?_)
      · rw [if_pos c5] at hj3
        refine .gyes rfl .g0 <| .opp (P.mov .t1) rfl <| .gyes rfl .g1 <| .opp (P.mov .t2) rfl <| .gyes rfl .g2 <| .opp (P.nilc .t1) rfl <| .gyes rfl .g2 <| .opp (P.fa .t0 fa_83_8 rfl) rfl <| .gyes rfl .g2 ?_
        obtain ⟨x6, hx7, hj3⟩ := bnd_eq hj3
        obtain ⟨i8, hi9, hx7⟩ := at_eq hx7
        have hi9_ : (a1).toNat = i8 := by rw [hi9]; rfl
        refine .opp (P.iad (i := i8) (off' := (17 + i8 * 1)) .t1 hi9 .t0 runUnderlying76 sizeOf4 (lt_of_get hx7) rfl) rfl <| .gyes rfl .g1 <| .op (V.ld (v := Bo x6) .t0 .k0 (by rcases i8 with _ | _ | _ | _ | _ <;> first | (obtain rfl := Option.some.inj hx7; exact LdV.one isAgg4 rfl) | (cases hx7; done))) rfl <| .opp (P.pickT .t1 .t0) rfl <| .opp (P.asg .t0) rfl <| .nil ?_
        cases hj3
        exact .stj () (.cons Mm.m0 .nil) (.of (.cons .k0 (.cons .k0 (.cons .k0 (.cons .k0 (.cons .k0 (.cons .k0 (.cons .k0 (.cons .k0 (.cons .k0 (.cons .k0 (.cons .k0 (.cons .k0 .nil))))))))))))) .nil
      · rw [if_neg (ne_true_of_eq_false c5)] at hj3
        refine .gno rfl .g0 rfl rfl <| .gno rfl .g0 rfl rfl <| .gno rfl .g0 rfl rfl <| .gno rfl .g0 rfl rfl <| .gno rfl .g0 rfl rfl <| .gno rfl .g0 rfl rfl <| .opp (P.pickF .t0 .k) rfl <| .opp (P.asg .t0) rfl <| .nil ?_
        cases hj3
        exact .stj () (.cons Mm.m0 .nil) (.of (.cons .k0 (.cons .k0 (.cons .k0 (.cons .k0 (.cons .k0 (.cons .k0 (.cons .k0 (.cons .k0 (.cons .k0 (.cons .k0 (.cons .k0 (.cons .k0 .nil))))))))))))) .nil
    · rw [if_neg (ne_true_of_eq_false c4)] at hj3
      refine .gno rfl .g0 rfl rfl <| .gno rfl .g0 rfl rfl <| .opp (P.pickF .t0 .k) rfl <| .opp (P.mov .t0) rfl <| .gno rfl .g0 rfl rfl <| .gno rfl .g0 rfl rfl <| .gno rfl .g0 rfl rfl <| .gno rfl .g0 rfl rfl <| .gno rfl .g0 rfl rfl <| .gno rfl .g0 rfl rfl <| .opp (P.pickF .t0 .k) rfl <| .opp (P.asg .t0) rfl ?_
      refine .nil ?_
      cases hj3
      exact .stj () (.cons Mm.m0 .nil) (.of (.cons .k0 (.cons .k0 (.cons .k0 (.cons .k0 (.cons .k0 (.cons .k0 (.cons .k0 (.cons .k0 (.cons .k0 (.cons .k0 (.cons .k0 (.cons .k0 .nil))))))))))))) .nil
  · clear hj3
    refine .ret ?_
    cases h
    exact .finw () (.r1 rfl (.tmp .g0)) trivial (Ls.of (.cons .k0 (.cons .k0 (.cons .k0 (.cons .k0 (.cons .k0 (.cons .k0 (.cons .k0 (.cons .k0 (.cons .k0 (.cons .k0 (.cons .k0 (.cons .k0 .nil))))))))))))) .nil
attribute [irreducible] world_World_Late
noncomputable def world_World_Forged (a0 : world_World) : Bool :=
  thn (if (world_World_is a0) = true then a0.forged else false) fun (y1 : Bool) => y1
set_option maxRecDepth 20000 in
set_option maxHeartbeats 8000000 in
theorem S_world_World_Forged (b00 : Nat) (a0 : world_World) (z00a z00b z00c z00d z00e z00f z00g z00h z00i z00j z00k : Value) (r : Bool) (h : world_World_Forged a0 = r) :
    SpecF Tryz.prog 16 [pt b00 0] [blk b00 83 (world_World.cs a0 z00a z00b z00c z00d z00e z00f z00g z00h z00i z00j z00k), bx chain_Chain.bd chain_Chain.fp z00a a0.sides.a0, bx chain_Chain.bd chain_Chain.fp z00b a0.sides.a1, bx client_Client.bd client_Client.fp z00c a0.clients.a0, bx client_Client.bd client_Client.fp z00d a0.clients.a1, bx router_Router.bd router_Router.fp z00e a0.routers.a0, bx router_Router.bd router_Router.fp z00f a0.routers.a1, bx relay_Relay.bd relay_Relay.fp z00g a0.relay, mb (fun (x : world_place) => Ag x.cs) (fun (x : Int) => N x) z00h a0.since, mb (fun (x : world_word) => Ag x.cs) (fun (x : Bool) => Bo x) z00i a0.told, mb (fun (x : ByteArray) => Value.string x) (fun (x : api_Inv) => Ag x.cs) z00j a0.keys, mb (fun (x : ByteArray) => Value.string x) (fun (x : world_data) => Ag x.cs) z00k a0.digests] [] (fun z : Unit => True) (fun z => Bo r) (fun z M => blk b00 83 (world_World.cs a0 z00a z00b z00c z00d z00e z00f z00g z00h z00i z00j z00k) :: bx chain_Chain.bd chain_Chain.fp z00a a0.sides.a0 :: bx chain_Chain.bd chain_Chain.fp z00b a0.sides.a1 :: bx client_Client.bd client_Client.fp z00c a0.clients.a0 :: bx client_Client.bd client_Client.fp z00d a0.clients.a1 :: bx router_Router.bd router_Router.fp z00e a0.routers.a0 :: bx router_Router.bd router_Router.fp z00f a0.routers.a1 :: bx relay_Relay.bd relay_Relay.fp z00g a0.relay :: mb (fun (x : world_place) => Ag x.cs) (fun (x : Int) => N x) z00h a0.since :: mb (fun (x : world_word) => Ag x.cs) (fun (x : Bool) => Bo x) z00i a0.told :: mb (fun (x : ByteArray) => Value.string x) (fun (x : api_Inv) => Ag x.cs) z00j a0.keys :: mb (fun (x : ByteArray) => Value.string x) (fun (x : world_data) => Ag x.cs) z00k a0.digests ::  M) (fun z M =>  M) := by
  refine .of func16 rfl ntmps16 rfl fun w0 D0 G0 => ?_
  unfold world_World_Forged at h
  refine .seq <| .reg rfl <| .op0 (OpP.toV (P.asg .k)) rfl <| .nil <| .then ?_
  obtain ⟨y1, hj3, h⟩ := thn_eq h
  refine .cutx (γ := Unit) (E1 := fun z2 => [(2, Bo y1)]) (L1 := fun z2 => [blk b00 83 (world_World.cs a0 z00a z00b z00c z00d z00e z00f z00g z00h z00i z00j z00k), bx chain_Chain.bd chain_Chain.fp z00a a0.sides.a0, bx chain_Chain.bd chain_Chain.fp z00b a0.sides.a1, bx client_Client.bd client_Client.fp z00c a0.clients.a0, bx client_Client.bd client_Client.fp z00d a0.clients.a1, bx router_Router.bd router_Router.fp z00e a0.routers.a0, bx router_Router.bd router_Router.fp z00f a0.routers.a1, bx relay_Relay.bd relay_Relay.fp z00g a0.relay, mb (fun (x : world_place) => Ag x.cs) (fun (x : Int) => N x) z00h a0.since, mb (fun (x : world_word) => Ag x.cs) (fun (x : Bool) => Bo x) z00i a0.told, mb (fun (x : ByteArray) => Value.string x) (fun (x : api_Inv) => Ag x.cs) z00j a0.keys, mb (fun (x : ByteArray) => Value.string x) (fun (x : world_data) => Ag x.cs) z00k a0.digests]) (R1 := fun z2 => []) ?_ (fun z2 => ?_)
  · clear h
    refine .reg rfl <| .opp (P.mov .g0) rfl <| .opg (G.call call31 (.cons .t0 .nil) (S_world_World_is b00 a0 z00a z00b z00c z00d z00e z00f z00g z00h z00i z00j z00k _ rfl) (.cons .k0 (.cons .k0 (.cons .k0 (.cons .k0 (.cons .k0 (.cons .k0 (.cons .k0 (.cons .k0 (.cons .k0 (.cons .k0 (.cons .k0 (.cons .k0 .nil)))))))))))) .nil (fun _ _ => rfl) (fun _ _ => rfl) rfl) rfl fun _ _ => .opp (P.mov .t0) rfl <| .split .k0 (fun c4 => ?_) (fun c4 => ?_)
    · rw [if_pos c4] at hj3
      refine .gyes rfl .g0 <| .opp (P.mov .t1) rfl <| .gyes rfl .g1 <| .opp (P.nilc .t0) rfl <| .gyes rfl .g1 <| .opp (P.fa .t0 fa_83_14 rfl) rfl <| .gyes rfl .g1 <| .op (V.ld (v := Bo a0.forged) .t0 .k0 (.one isAgg4 rfl)) rfl <| .opp (P.pickT .t1 .t0) rfl <| .opp (P.asg .t0) rfl <| .nil ?_
      subst hj3
      exact .stj () (.cons Mm.m0 .nil) (.of (.cons .k0 (.cons .k0 (.cons .k0 (.cons .k0 (.cons .k0 (.cons .k0 (.cons .k0 (.cons .k0 (.cons .k0 (.cons .k0 (.cons .k0 (.cons .k0 .nil))))))))))))) .nil
    · rw [if_neg (ne_true_of_eq_false c4)] at hj3
      refine .gno rfl .g0 rfl rfl <| .gno rfl .g0 rfl rfl <| .gno rfl .g0 rfl rfl <| .gno rfl .g0 rfl rfl <| .opp (P.pickF .t0 .k) rfl <| .opp (P.asg .t0) rfl <| .nil ?_
      subst hj3
      exact .stj () (.cons Mm.m0 .nil) (.of (.cons .k0 (.cons .k0 (.cons .k0 (.cons .k0 (.cons .k0 (.cons .k0 (.cons .k0 (.cons .k0 (.cons .k0 (.cons .k0 (.cons .k0 (.cons .k0 .nil))))))))))))) .nil
  · clear hj3
    refine .ret ?_
    subst h
    exact .finw () (.r1 rfl (.tmp .g0)) trivial (Ls.of (.cons .k0 (.cons .k0 (.cons .k0 (.cons .k0 (.cons .k0 (.cons .k0 (.cons .k0 (.cons .k0 (.cons .k0 (.cons .k0 (.cons .k0 (.cons .k0 .nil))))))))))))) .nil
attribute [irreducible] world_World_Forged
noncomputable def world_World_Clash (a0 : world_World) : Bool :=
  thn (if (world_World_is a0) = true then a0.clash else false) fun (y1 : Bool) => y1
set_option maxRecDepth 20000 in
set_option maxHeartbeats 8000000 in
theorem S_world_World_Clash (b00 : Nat) (a0 : world_World) (z00a z00b z00c z00d z00e z00f z00g z00h z00i z00j z00k : Value) (r : Bool) (h : world_World_Clash a0 = r) :
    SpecF Tryz.prog 17 [pt b00 0] [blk b00 83 (world_World.cs a0 z00a z00b z00c z00d z00e z00f z00g z00h z00i z00j z00k), bx chain_Chain.bd chain_Chain.fp z00a a0.sides.a0, bx chain_Chain.bd chain_Chain.fp z00b a0.sides.a1, bx client_Client.bd client_Client.fp z00c a0.clients.a0, bx client_Client.bd client_Client.fp z00d a0.clients.a1, bx router_Router.bd router_Router.fp z00e a0.routers.a0, bx router_Router.bd router_Router.fp z00f a0.routers.a1, bx relay_Relay.bd relay_Relay.fp z00g a0.relay, mb (fun (x : world_place) => Ag x.cs) (fun (x : Int) => N x) z00h a0.since, mb (fun (x : world_word) => Ag x.cs) (fun (x : Bool) => Bo x) z00i a0.told, mb (fun (x : ByteArray) => Value.string x) (fun (x : api_Inv) => Ag x.cs) z00j a0.keys, mb (fun (x : ByteArray) => Value.string x) (fun (x : world_data) => Ag x.cs) z00k a0.digests] [] (fun z : Unit => True) (fun z => Bo r) (fun z M => blk b00 83 (world_World.cs a0 z00a z00b z00c z00d z00e z00f z00g z00h z00i z00j z00k) :: bx chain_Chain.bd chain_Chain.fp z00a a0.sides.a0 :: bx chain_Chain.bd chain_Chain.fp z00b a0.sides.a1 :: bx client_Client.bd client_Client.fp z00c a0.clients.a0 :: bx client_Client.bd client_Client.fp z00d a0.clients.a1 :: bx router_Router.bd router_Router.fp z00e a0.routers.a0 :: bx router_Router.bd router_Router.fp z00f a0.routers.a1 :: bx relay_Relay.bd relay_Relay.fp z00g a0.relay :: mb (fun (x : world_place) => Ag x.cs) (fun (x : Int) => N x) z00h a0.since :: mb (fun (x : world_word) => Ag x.cs) (fun (x : Bool) => Bo x) z00i a0.told :: mb (fun (x : ByteArray) => Value.string x) (fun (x : api_Inv) => Ag x.cs) z00j a0.keys :: mb (fun (x : ByteArray) => Value.string x) (fun (x : world_data) => Ag x.cs) z00k a0.digests ::  M) (fun z M =>  M) := by
  refine .of func17 rfl ntmps17 rfl fun w0 D0 G0 => ?_
  unfold world_World_Clash at h
  refine .seq <| .reg rfl <| .op0 (OpP.toV (P.asg .k)) rfl <| .nil <| .then ?_
  obtain ⟨y1, hj3, h⟩ := thn_eq h
  refine .cutx (γ := Unit) (E1 := fun z2 => [(2, Bo y1)]) (L1 := fun z2 => [blk b00 83 (world_World.cs a0 z00a z00b z00c z00d z00e z00f z00g z00h z00i z00j z00k), bx chain_Chain.bd chain_Chain.fp z00a a0.sides.a0, bx chain_Chain.bd chain_Chain.fp z00b a0.sides.a1, bx client_Client.bd client_Client.fp z00c a0.clients.a0, bx client_Client.bd client_Client.fp z00d a0.clients.a1, bx router_Router.bd router_Router.fp z00e a0.routers.a0, bx router_Router.bd router_Router.fp z00f a0.routers.a1, bx relay_Relay.bd relay_Relay.fp z00g a0.relay, mb (fun (x : world_place) => Ag x.cs) (fun (x : Int) => N x) z00h a0.since, mb (fun (x : world_word) => Ag x.cs) (fun (x : Bool) => Bo x) z00i a0.told, mb (fun (x : ByteArray) => Value.string x) (fun (x : api_Inv) => Ag x.cs) z00j a0.keys, mb (fun (x : ByteArray) => Value.string x) (fun (x : world_data) => Ag x.cs) z00k a0.digests]) (R1 := fun z2 => []) ?_ (fun z2 => ?_)
  · clear h
    refine .reg rfl <| .opp (P.mov .g0) rfl <| .opg (G.call call31 (.cons .t0 .nil) (S_world_World_is b00 a0 z00a z00b z00c z00d z00e z00f z00g z00h z00i z00j z00k _ rfl) (.cons .k0 (.cons .k0 (.cons .k0 (.cons .k0 (.cons .k0 (.cons .k0 (.cons .k0 (.cons .k0 (.cons .k0 (.cons .k0 (.cons .k0 (.cons .k0 .nil)))))))))))) .nil (fun _ _ => rfl) (fun _ _ => rfl) rfl) rfl fun _ _ => .opp (P.mov .t0) rfl <| .split .k0 (fun c4 => ?_) (fun c4 => ?_)
    · rw [if_pos c4] at hj3
      refine .gyes rfl .g0 <| .opp (P.mov .t1) rfl <| .gyes rfl .g1 <| .opp (P.nilc .t0) rfl <| .gyes rfl .g1 <| .opp (P.fa .t0 fa_83_15 rfl) rfl <| .gyes rfl .g1 <| .op (V.ld (v := Bo a0.clash) .t0 .k0 (.one isAgg4 rfl)) rfl <| .opp (P.pickT .t1 .t0) rfl <| .opp (P.asg .t0) rfl <| .nil ?_
      subst hj3
      exact .stj () (.cons Mm.m0 .nil) (.of (.cons .k0 (.cons .k0 (.cons .k0 (.cons .k0 (.cons .k0 (.cons .k0 (.cons .k0 (.cons .k0 (.cons .k0 (.cons .k0 (.cons .k0 (.cons .k0 .nil))))))))))))) .nil
    · rw [if_neg (ne_true_of_eq_false c4)] at hj3
      refine .gno rfl .g0 rfl rfl <| .gno rfl .g0 rfl rfl <| .gno rfl .g0 rfl rfl <| .gno rfl .g0 rfl rfl <| .opp (P.pickF .t0 .k) rfl <| .opp (P.asg .t0) rfl <| .nil ?_
      subst hj3
      exact .stj () (.cons Mm.m0 .nil) (.of (.cons .k0 (.cons .k0 (.cons .k0 (.cons .k0 (.cons .k0 (.cons .k0 (.cons .k0 (.cons .k0 (.cons .k0 (.cons .k0 (.cons .k0 (.cons .k0 .nil))))))))))))) .nil
  · clear hj3
    refine .ret ?_
    subst h
    exact .finw () (.r1 rfl (.tmp .g0)) trivial (Ls.of (.cons .k0 (.cons .k0 (.cons .k0 (.cons .k0 (.cons .k0 (.cons .k0 (.cons .k0 (.cons .k0 (.cons .k0 (.cons .k0 (.cons .k0 (.cons .k0 .nil))))))))))))) .nil
attribute [irreducible] world_World_Clash
noncomputable def world_World_Setup (a0 : world_World) : world_Setup :=
  if (!(world_World_is a0)) = true then ⟨0, 0, 0, 0⟩ else a0.setup
set_option maxRecDepth 20000 in
set_option maxHeartbeats 8000000 in
theorem S_world_World_Setup (b00 : Nat) (a0 : world_World) (z00a z00b z00c z00d z00e z00f z00g z00h z00i z00j z00k : Value) (r : world_Setup) (h : world_World_Setup a0 = r) :
    SpecF Tryz.prog 21 [pt b00 0] [blk b00 83 (world_World.cs a0 z00a z00b z00c z00d z00e z00f z00g z00h z00i z00j z00k), bx chain_Chain.bd chain_Chain.fp z00a a0.sides.a0, bx chain_Chain.bd chain_Chain.fp z00b a0.sides.a1, bx client_Client.bd client_Client.fp z00c a0.clients.a0, bx client_Client.bd client_Client.fp z00d a0.clients.a1, bx router_Router.bd router_Router.fp z00e a0.routers.a0, bx router_Router.bd router_Router.fp z00f a0.routers.a1, bx relay_Relay.bd relay_Relay.fp z00g a0.relay, mb (fun (x : world_place) => Ag x.cs) (fun (x : Int) => N x) z00h a0.since, mb (fun (x : world_word) => Ag x.cs) (fun (x : Bool) => Bo x) z00i a0.told, mb (fun (x : ByteArray) => Value.string x) (fun (x : api_Inv) => Ag x.cs) z00j a0.keys, mb (fun (x : ByteArray) => Value.string x) (fun (x : world_data) => Ag x.cs) z00k a0.digests] [] (fun z : Unit => True) (fun z => Ag (world_Setup.cs r)) (fun z M => blk b00 83 (world_World.cs a0 z00a z00b z00c z00d z00e z00f z00g z00h z00i z00j z00k) :: bx chain_Chain.bd chain_Chain.fp z00a a0.sides.a0 :: bx chain_Chain.bd chain_Chain.fp z00b a0.sides.a1 :: bx client_Client.bd client_Client.fp z00c a0.clients.a0 :: bx client_Client.bd client_Client.fp z00d a0.clients.a1 :: bx router_Router.bd router_Router.fp z00e a0.routers.a0 :: bx router_Router.bd router_Router.fp z00f a0.routers.a1 :: bx relay_Relay.bd relay_Relay.fp z00g a0.relay :: mb (fun (x : world_place) => Ag x.cs) (fun (x : Int) => N x) z00h a0.since :: mb (fun (x : world_word) => Ag x.cs) (fun (x : Bool) => Bo x) z00i a0.told :: mb (fun (x : ByteArray) => Value.string x) (fun (x : api_Inv) => Ag x.cs) z00j a0.keys :: mb (fun (x : ByteArray) => Value.string x) (fun (x : world_data) => Ag x.cs) z00k a0.digests ::  M) (fun z M =>  M) := by
  refine .of func21 rfl ntmps21 rfl fun w0 D0 G0 => ?_
  unfold world_World_Setup at h
  refine .seq <| .reg rfl <| .opx (X.alc (cs := (world_Setup.cs ⟨0, 0, 0, 0⟩)) zeroValue23 rfl) rfl fun b1 => .nil <| .then <| .seq <| .seq <| .reg rfl <| .opp (P.mov .g1) rfl <| .opg (G.call call31 (.cons .t0 .nil) (S_world_World_is b00 a0 z00a z00b z00c z00d z00e z00f z00g z00h z00i z00j z00k _ rfl) (.cons .k1 (.cons .k1 (.cons .k1 (.cons .k1 (.cons .k1 (.cons .k1 (.cons .k1 (.cons .k1 (.cons .k1 (.cons .k1 (.cons .k1 (.cons .k1 .nil)))))))))))) .nil (fun _ _ => rfl) (fun _ _ => rfl) rfl) rfl fun _ _ => .opp (P.not .t0) rfl <| .nil ?_
  refine .then <| .cond .t0 (fun c2 => ?_) (fun c2 => ?_)
  · rw [if_pos c2] at h
    refine .seq <| .reg rfl <| .opp (P.bld (v := Ag (world_Setup.cs ⟨0, 0, 0, 0⟩)) .nil (bld_run zeroValue23 runUnderlying23 pl_23 (by kernel_rfl))) rfl <| .opg (G.str .t0 .g0 .k12 (.mk (cs' := (world_Setup.cs ⟨0, 0, 0, 0⟩)) sizeOf23 rfl rfl rfl rfl)) rfl fun _ _ => .nil <| .then <| .ret <| .thr ?_
    subst h
    exact .finw () (.r1 rfl (.cell .g0 .k0 (.agg isAgg23 sizeOf23 rfl rfl))) trivial (Ls.of (.cons .k1 (.cons .k1 (.cons .k1 (.cons .k1 (.cons .k1 (.cons .k1 (.cons .k1 (.cons .k1 (.cons .k1 (.cons .k1 (.cons .k1 (.cons .k1 .nil))))))))))))) .nil
  · rw [if_neg (ne_true_of_eq_false c2)] at h
    refine .skip <| .then <| .seq <| .reg rfl <| .opp (P.mov .t1) rfl <| .opp (P.nilc .t0) rfl <| .opp (P.fa .t0 fa_83_0 rfl) rfl <| .op (V.ld (v := Ag (world_Setup.cs a0.setup)) .t0 .k0 (.agg isAgg23 sizeOf23 rfl rfl)) rfl <| .opg (G.str .t0 .g0 .k12 (.mk (cs' := (world_Setup.cs a0.setup)) sizeOf23 rfl rfl rfl rfl)) rfl fun _ _ => .nil <| .then <| .ret ?_
    subst h
    exact .finw () (.r1 rfl (.cell .g0 .k0 (.agg isAgg23 sizeOf23 rfl rfl))) trivial (Ls.of (.cons .k1 (.cons .k1 (.cons .k1 (.cons .k1 (.cons .k1 (.cons .k1 (.cons .k1 (.cons .k1 (.cons .k1 (.cons .k1 (.cons .k1 (.cons .k1 .nil))))))))))))) .nil
attribute [irreducible] world_World_Setup
noncomputable def slices_Clone_api_Tx (a0 : List api_Tx) : Option ((List api_Tx)) :=
  grd ((([] : List api_Tx).length + a0.length) * 224 ≤ 140737488355328) <| some ((([] : List api_Tx) ++ a0))
set_option maxRecDepth 20000 in
set_option maxHeartbeats 8000000 in
theorem S_slices_Clone_api_Tx (v00 : Value) (a0 : List api_Tx) (r : (List api_Tx)) (h : slices_Clone_api_Tx a0 = some r) :
    SpecF Tryz.prog 58 [v00] [] [rows 25 v00 (a0.map api_Tx.cs)] (fun z : Value => True) (fun z => z) (fun z M => lst 42 25 z (r.map api_Tx.cs) ::  M) (fun z M =>  M) := by
  refine .of func58 rfl ntmps58 rfl fun w0 D0 G0 => ?_
  unfold slices_Clone_api_Tx at h
  refine .seq <| .reg rfl <| .op0 (OpP.toV (P.asg .k)) rfl <| .nil <| .then <| .seq <| .seq <| .reg rfl <| .opp (P.mov .g0) rfl <| .opg (G.nilr (e := 42) .t0 Mm.m0 (by kernel_rfl) rfl) rfl fun n1 hz2 => .nil <| .then ?_
  refine .cond .t0 (fun c3 => ?_) (fun c3 => ?_)
  · have hx7 : a0 = [] := by simpa using hz2 c3
    replace h : some ([] : List api_Tx) = some r := by rw [hx7] at h; simpa [grd] using h
    refine .seq <| .reg rfl <| .opp (P.asg .k) rfl <| .nil <| .then <| .ret <| .thr ?_
    cases h
    exact .lnil 42 25 <| .finw nilSl (.r1 rfl (.tmp .g0)) trivial (Ls.of (.cons .k0 .nil)) .nil
  · refine .skip <| .then <| .seq <| .reg rfl <| .opg (G.bsl0 runUnderlying86 sizeOf42 rfl) rfl fun u4 _ => .opp (P.mov .t1) rfl ?_
    obtain ⟨hb6, h⟩ := grd_eq h
    refine .opg (G.app (by_ := 224) .t1 .t0 .k0 (.inl Mm.m0) runUnderlying86 runUnderlying86 sizeOf42 typeInfo42 rfl rfl zeroValue42 rfl (one_map one_42 _) (by simpa using hb6) rfl) rfl fun u5 _ => .conseq .k0 (q := lst 42 25 u5 ((([] : List api_Tx) ++ a0).map api_Tx.cs)) (fun _ hh => by simpa [List.map_append] using hh) <| .opp (P.asg .t0) rfl <| .nil <| .then <| .ret ?_
    cases h
    exact .finw u5 (.r1 rfl (.tmp .g0)) trivial (Ls.of (.cons .k0 .nil)) .nil
attribute [irreducible] slices_Clone_api_Tx
noncomputable def chain_Chain_Pool_bx (a0 : Option chain_Chain) : Option ((List api_Tx)) :=
  Option.bind (chain_Chain_is_bx a0) fun r1 => if (!r1) = true then (some ([] : List api_Tx)) else (Option.bind a0 fun (y5 : chain_Chain) => Option.bind (slices_Clone_api_Tx y5.pool) fun r11 => some r11)
set_option maxRecDepth 20000 in
set_option maxHeartbeats 8000000 in
theorem S_chain_Chain_Pool_bx (v00 : Value) (a0 : Option chain_Chain) (r : (List api_Tx)) (h : chain_Chain_Pool_bx a0 = some r) :
    SpecF Tryz.prog 26 [v00] [bx chain_Chain.bd chain_Chain.fp v00 a0] [] (fun z : Value => True) (fun z => z) (fun z M => bx chain_Chain.bd chain_Chain.fp v00 a0 :: lst 42 25 z (r.map api_Tx.cs) ::  M) (fun z M =>  M) := by
  refine .of func26 rfl ntmps26 rfl fun w0 D0 G0 => ?_
  unfold chain_Chain_Pool_bx at h
  refine .seq <| .reg rfl <| .op0 (OpP.toV (P.asg .k)) rfl <| .nil <| .then <| .seq <| .seq <| .reg rfl <| .opp (P.mov .g0) rfl ?_
  obtain ⟨r1, hr2, h⟩ := bnd_eq h
  refine .opg (G.call call33 (.cons .t0 .nil) (S_chain_Chain_is_bx v00 a0 r1 hr2) (.cons .k0 .nil) .nil (fun _ _ => rfl) (fun _ _ => rfl) rfl) rfl fun _ _ => .opp (P.not .t0) rfl <| .nil <| .then <| .cond .t0 (fun c3 => ?_) (fun c3 => ?_)
  · rw [if_pos c3] at h
    refine .seq <| .reg rfl <| .opp (P.asg .k) rfl <| .nil <| .then <| .ret <| .thr ?_
    cases h
    exact .lnil 42 25 <| .finw nilSl (.r1 rfl (.tmp .g0)) trivial (Ls.of (.cons .k1 (.cons .k0 .nil))) .nil
  · rw [if_neg (ne_true_of_eq_false c3)] at h
    refine .skip <| .then <| .seq <| .reg rfl <| .opp (P.mov .t0) rfl ?_
    obtain ⟨y5, hy6, h⟩ := bnd_eq h
    refine .bxo .k0 hy6 (fun _ _ _ => rfl) fun ⟨b7, u8, u9, u10⟩ hz4 => ?_
    replace hz4 : v00 = pt b7 0 := hz4
    subst hz4
    refine .opp (P.nilc .t0) rfl <| .opp (P.fa .t0 fa_99_1 rfl) rfl <| .op (V.ld (v := u9) .t0 .k0 (.one isAgg86 rfl)) rfl ?_
    obtain ⟨r11, hr12, h⟩ := bnd_eq h
    refine .opg (G.calll call58 (.cons .t0 .nil) (S_slices_Clone_api_Tx u9 y5.pool r11 hr12) .nil (.imp (List.mem_append_right _ Mm.m2) (fun _ => lst_rows) .nil) (fun _ _ => rfl) rfl) rfl fun u13 _ => .opp (P.asg .t0) rfl <| .nil <| .then <| .ret ?_
    cases h
    exact .bxc chain_Chain.bd chain_Chain.fp (b7, u8, u9, u10) y5 (z := (pt b7 0)) rfl (.cons .k1 (.cons .k1 (.cons .k1 (.cons .k1 .nil)))) <| .conseq .k0 (q := bx chain_Chain.bd chain_Chain.fp (pt b7 0) a0) (fun _ h_ => by rw [hy6]; exact h_) <| .finw u13 (.r1 rfl (.tmp .g0)) trivial (Ls.of (.cons .k0 (.cons .k0 .nil))) .nil
attribute [irreducible] chain_Chain_Pool_bx
noncomputable def narrowslaw24_WorldNobody (a0 : api_Step) (a1 : Int) : Option (Bool) :=
  Option.bind (narrowslaw24_alive) fun r2 => if (!r2) = true then (some false) else (Option.bind (world_World_Step_bx none a0) fun r10 => Option.bind (Option.bind (world_World_Now_bx none) fun r18 => if (decide (r18 ≠ 0)) = true then (some true) else (Option.bind (world_World_Mail_bx none) fun r24 => if (decide ((r24.length : Int) ≠ 0)) = true then (some true) else (Option.bind (world_World_Side_nil_k0) fun r33 => if r33.isSome = true then (some true) else (Option.bind (world_World_Client_nil 0) fun r41 => if r41.isSome = true then (some true) else (Option.bind (world_World_Router_nil 2) fun r49 => if r49.isSome = true then (some true) else (Option.bind (world_World_Late_bx none 0) fun r57 => if r57 = true then (some true) else (Option.bind (world_World_Forged_bx none) fun r63 => if r63 = true then (some true) else (Option.bind (world_World_Clash_bx none) fun r69 => if r69 = true then (some true) else (Option.bind (world_World_Setup_bx none) fun r75 => some (decide ((r75 : world_Setup) ≠ (⟨0, 0, 0, 0⟩ : world_Setup)))))))))))) fun (y12 : Bool) => if y12 = true then (some false) else (Option.bind (world_World_Step (⟨⟨0, 0, 0, 0⟩, ⟨none, none⟩, ⟨none, none⟩, ⟨none, none⟩, none, (), 0, ⟨0, 0, 0, 0⟩, ⟨false, false, false, false⟩, none, none, none, none, ⟨0, 0⟩, false, false⟩ : world_World) a0) fun r81 => Option.bind (if (decide ((world_World_Now (⟨r81.setup, ⟨none, none⟩, ⟨none, none⟩, ⟨none, none⟩, none, r81.mail, r81.now, r81.seen, r81.late, r81.since, none, none, none, r81.asked, r81.forged, r81.clash⟩ : world_World)) ≠ 0)) = true then (some true) else (Option.bind (world_World_Mail (⟨r81.setup, ⟨none, none⟩, ⟨none, none⟩, ⟨none, none⟩, none, r81.mail, r81.now, r81.seen, r81.late, r81.since, none, none, none, r81.asked, r81.forged, r81.clash⟩ : world_World)) fun r94 => if (decide ((r94.length : Int) ≠ 0)) = true then (some true) else (if (pkb (world_World_Side_k0 (⟨r81.setup, ⟨none, none⟩, ⟨none, none⟩, ⟨none, none⟩, none, r81.mail, r81.now, r81.seen, r81.late, r81.since, none, none, none, r81.asked, r81.forged, r81.clash⟩ : world_World)) 0 [false, false]) = true then (some true) else (Option.bind (world_World_Client (⟨r81.setup, ⟨none, none⟩, ⟨none, none⟩, ⟨none, none⟩, none, r81.mail, r81.now, r81.seen, r81.late, r81.since, none, none, none, r81.asked, r81.forged, r81.clash⟩ : world_World) 0) fun r107 => if (pkb r107 0 [false, false, false]) = true then (some true) else (Option.bind (world_World_Router (⟨r81.setup, ⟨none, none⟩, ⟨none, none⟩, ⟨none, none⟩, none, r81.mail, r81.now, r81.seen, r81.late, r81.since, none, none, none, r81.asked, r81.forged, r81.clash⟩ : world_World) 2) fun r113 => if (pkb r113 0 [false, false, false]) = true then (some true) else (Option.bind (world_World_Late (⟨r81.setup, ⟨none, none⟩, ⟨none, none⟩, ⟨none, none⟩, none, r81.mail, r81.now, r81.seen, r81.late, r81.since, none, none, none, r81.asked, r81.forged, r81.clash⟩ : world_World) 0) fun r119 => if r119 = true then (some true) else (if (world_World_Forged (⟨r81.setup, ⟨none, none⟩, ⟨none, none⟩, ⟨none, none⟩, none, r81.mail, r81.now, r81.seen, r81.late, r81.since, none, none, none, r81.asked, r81.forged, r81.clash⟩ : world_World)) = true then (some true) else (if (world_World_Clash (⟨r81.setup, ⟨none, none⟩, ⟨none, none⟩, ⟨none, none⟩, none, r81.mail, r81.now, r81.seen, r81.late, r81.since, none, none, none, r81.asked, r81.forged, r81.clash⟩ : world_World)) = true then (some true) else (some (decide (((world_World_Setup (⟨r81.setup, ⟨none, none⟩, ⟨none, none⟩, ⟨none, none⟩, none, r81.mail, r81.now, r81.seen, r81.late, r81.since, none, none, none, r81.asked, r81.forged, r81.clash⟩ : world_World)) : world_Setup) ≠ (⟨0, 0, 0, 0⟩ : world_Setup)))))))))))) fun (y84 : Bool) => if y84 = true then (some false) else (thn (thn (if (decide (a1 ≥ 1)) = true then (decide (a1 ≤ 13)) else false) fun (y137 : Bool) => if y137 = true then 0 else a1) fun (y134 : Int) => Option.bind (world_New (⟨1, 0, 31, 0⟩ : world_Setup)) fun r142 => Option.bind (world_World_Step_bx r142.1 (⟨y134, a0.A, a0.B, a0.C, a0.Data⟩ : api_Step)) fun r146 => Option.bind (if (decide (r142.2 = 0)) = true then (Option.bind (world_World_Now_bx r146) fun r152 => if (decide (r152 = 0)) = true then (Option.bind (world_World_Mail_bx r146) fun r155 => if (decide ((r155.length : Int) = 0)) = true then (Option.bind r146 fun (y162 : world_World) => grd ((world_World_Side_k0 y162) ≠ 0) <| Option.bind (chain_Chain_Pool_bx y162.sides.a0) fun r178 => some (decide ((r178.length : Int) = 0))) else (some false)) else (some false)) else (some false)) fun (y148 : Bool) => some y148)))
set_option maxRecDepth 20000 in
set_option maxHeartbeats 8000000 in
theorem S_narrowslaw24_WorldNobody (a0 : api_Step) (z00a : Value) (a1 : Int) (r : Bool) (h : narrowslaw24_WorldNobody a0 a1 = some r) :
    SpecF Tryz.prog 5 [Ag (api_Step.cs a0 z00a), N a1] [] [rows 1 z00a (a0.Data.map (fun x => [B8 x]))] (fun z : Unit => True) (fun z => Bo r) (fun z M =>  M) (fun z M =>  M) := by
  refine .of func5 rfl ntmps5 rfl fun w0 D0 G0 => ?_
  unfold narrowslaw24_WorldNobody at h
  refine .seq <| .reg rfl <| .opx (X.box (cs := (api_Step.cs a0 z00a)) .t0 rfl) rfl fun b1 => .op0 (OpP.toV (P.asg .k)) rfl <| .nil <| .then <| .seq <| .seq <| .reg rfl ?_
  obtain ⟨r2, hr3, h⟩ := bnd_eq h
  refine .opg (G.call call9 .nil (S_narrowslaw24_alive  r2 hr3) .nil .nil (fun _ _ => rfl) (fun _ _ => rfl) rfl) rfl fun _ _ => .opp (P.not .t0) rfl <| .nil <| .then <| .cond .t0 (fun c4 => ?_) (fun c4 => ?_)
  · rw [if_pos c4] at h
    refine .seq <| .reg rfl <| .opp (P.asg .k) rfl <| .nil <| .then <| .ret <| .thr ?_
    cases h
    exact .finw () (.r1 rfl (.tmp .g0)) trivial (Ls.of .nil) .nil
  · rw [if_neg (ne_true_of_eq_false c4)] at h
    refine .skip <| .then <| .seq <| .reg rfl <| .opp (P.asg .k) rfl <| .nil <| .then <| .seq <| .reg rfl <| .opp (P.mov .t0) rfl <| .opp (P.bld (v := Ag (world_World.cs ⟨⟨0, 0, 0, 0⟩, ⟨none, none⟩, ⟨none, none⟩, ⟨none, none⟩, none, (), 0, ⟨0, 0, 0, 0⟩, ⟨false, false, false, false⟩, none, none, none, none, ⟨0, 0⟩, false, false⟩ nilp nilp nilp nilp nilp nilp nilp (.map none) (.map none) (.map none) (.map none))) .nil (bld_run zeroValue83 runUnderlying83 pl_83 (by kernel_rfl))) rfl <| .opx (X.box (cs := (world_World.cs ⟨⟨0, 0, 0, 0⟩, ⟨none, none⟩, ⟨none, none⟩, ⟨none, none⟩, none, (), 0, ⟨0, 0, 0, 0⟩, ⟨false, false, false, false⟩, none, none, none, none, ⟨0, 0⟩, false, false⟩ nilp nilp nilp nilp nilp nilp nilp (.map none) (.map none) (.map none) (.map none))) .t0 rfl) rfl fun b5 => ?_
    refine .opg (G.bsln (xs := [[nilp], [(pt b5 0)]]) (.cons .t1 (.cons .t0 .nil)) runUnderlying84 sizeOf26 zeroValue26 (by kernel_rfl) rfl rfl rfl rfl rfl) rfl fun u6 _ => .opp (P.asg .t0) rfl <| .nil <| .then <| .seq <| .seq <| .reg rfl <| .opp (P.asg .k) rfl <| .nil <| .then <| .block <| .rounds 3 ?_
    refine .rd <| .seq <| .seq <| .reg rfl <| .opp (P.mov .g0) rfl <| .opp (P.mov .g2) rfl <| .op (V.lnl (n := 2) .t0 .k0 rfl runUnderlying84) rfl <| .opp (P.bin (v := Bo true) .t1 .t0 (BinV.lss.boolc (by decide))) rfl <| .nil <| .then <| .condT .t0 <| .skip ?_
    refine .then <| .seq <| .block <| .seq <| .draw 6 (.on 0 .pu (.on 1 .pu (.on 2 .pu (.on 3 .ld (.on 4 .ld (.on 5 .go .nl)))))) follows_mixed (.thn (.inb (.thn (.thn (.inb (.thn .body)))))) (by kernel_rfl) <| .dpu rfl (.n rfl) (P.mov .g1) rfl rfl <| .dpu rfl (.n rfl) (P.mov .g1) rfl rfl <| .ixql .k0 (show [[nilp], [(pt b5 0)]][0]? = some [nilp] from rfl) fun p7 q8 hq9 => .dpu rfl (.n rfl) (P.ixi (i := 0) .t0 rfl .t0 hq9 runUnderlying84 sizeOf26) rfl rfl <| .dld rfl (.n rfl) (V.ldxl0 (u := nilp) .t0 hq9 .k0 (show [[nilp], [(pt b5 0)]][0]? = some [nilp] from rfl) (.one isAgg26 rfl)) (fun _ h => h) rfl rfl <| .dld rfl (.n rfl) (V.ld (v := Ag (api_Step.cs a0 z00a)) .g3 .k2 (.agg isAgg70 sizeOf70 rfl rfl)) (fun _ h => h) rfl rfl <| .bxn world_World.bd world_World.fp ?_
    obtain ⟨r10, hr11, h⟩ := bnd_eq h
    refine .dgo rfl (.n rfl) (G.call call25 (.cons .t1 (.cons .t0 .nil)) (S_world_World_Step_bx nilp none a0 z00a r10 hr11) (.cons .k0 .nil) (.cons Mm.m0 .nil) (fun _ _ => rfl) (fun _ _ => rfl) rfl) (.inr fun _ _ _ h => (h.imp (Ls.of (.cons .k1 (.cons .k1 (.cons .k1 .nil))))).ro (Rs.cons Mm.m0 Rs.nil)) fun _ _ => .conseq .k0 (q := bx world_World.bd world_World.fp nilp none) (fun _ h_ => bx_nilp h_) <| .drop .k0 <| .dnil <| .then ?_
    obtain ⟨y12, hj14, h⟩ := bnd_eq h
    refine .cutx (γ := Unit) (E1 := fun z13 => [(96, Bo y12), (7, N 0), (6, u6), (2, pt b1 0), (1, N a1)]) (L1 := fun z13 => [blk b1 70 (api_Step.cs a0 z00a), blk b5 83 (world_World.cs ⟨⟨0, 0, 0, 0⟩, ⟨none, none⟩, ⟨none, none⟩, ⟨none, none⟩, none, (), 0, ⟨0, 0, 0, 0⟩, ⟨false, false, false, false⟩, none, none, none, none, ⟨0, 0⟩, false, false⟩ nilp nilp nilp nilp nilp nilp nilp (.map none) (.map none) (.map none) (.map none)), lst 26 1 u6 [[nilp], [(pt b5 0)]]]) (R1 := fun z13 => [rows 1 z00a (a0.Data.map (fun x => [B8 x]))]) ?_ (fun z13 => ?_)
    · clear h
      refine .reg rfl <| .opp (P.mov .g1) rfl <| .opp (P.mov .g1) rfl <| .ixql .k1 (show [[nilp], [(pt b5 0)]][0]? = some [nilp] from rfl) fun p15 q16 hq17 => .opp (P.ixi (i := 0) .t0 rfl .t0 hq17 runUnderlying84 sizeOf26) rfl <| .op (V.ldxl0 (u := nilp) .t0 hq17 .k1 (show [[nilp], [(pt b5 0)]][0]? = some [nilp] from rfl) (.one isAgg26 rfl)) rfl ?_
      obtain ⟨r18, hr19, hj14⟩ := bnd_eq hj14
      refine .opg (G.call call15 (.cons .t0 .nil) (S_world_World_Now_bx nilp none r18 hr19) (.cons .k0 .nil) .nil (fun _ _ => rfl) (fun _ _ => rfl) rfl) rfl fun _ _ => .opp (P.bin .t0 .k .neq) rfl <| .opp (P.mov .t0) rfl <| .split .k0 (fun c20 => ?_) (fun c20 => ?_)
      · rw [if_pos c20] at hj14
        refine .gno rfl .g0 rfl rfl <| .gno rfl .g0 rfl rfl <| .gno rfl .g0 rfl rfl <| .gno rfl .g0 rfl rfl <| .gno rfl .g0 rfl rfl <| .gno rfl .g0 rfl rfl <| .gno rfl .g0 rfl rfl <| .opp (P.pickT .t0 .k) rfl <| .opp (P.mov .t0) rfl <| .gno rfl .g0 rfl rfl <| .gno rfl .g0 rfl rfl <| .gno rfl .g0 rfl rfl ?_
        refine .gno rfl .g0 rfl rfl <| .gno rfl .g0 rfl rfl <| .gno rfl .g0 rfl rfl <| .opp (P.pickT .t0 .k) rfl <| .opp (P.mov .t0) rfl <| .gno rfl .g0 rfl rfl <| .gno rfl .g0 rfl rfl <| .gno rfl .g0 rfl rfl <| .gno rfl .g0 rfl rfl <| .gno rfl .g0 rfl rfl <| .gno rfl .g0 rfl rfl <| .opp (P.pickT .t0 .k) rfl ?_
        refine .opp (P.mov .t0) rfl <| .gno rfl .g0 rfl rfl <| .gno rfl .g0 rfl rfl <| .gno rfl .g0 rfl rfl <| .gno rfl .g0 rfl rfl <| .gno rfl .g0 rfl rfl <| .gno rfl .g0 rfl rfl <| .opp (P.pickT .t0 .k) rfl <| .opp (P.mov .t0) rfl <| .gno rfl .g0 rfl rfl <| .gno rfl .g0 rfl rfl <| .gno rfl .g0 rfl rfl ?_
        refine .gno rfl .g0 rfl rfl <| .gno rfl .g0 rfl rfl <| .opp (P.pickT .t0 .k) rfl <| .opp (P.mov .t0) rfl <| .gno rfl .g0 rfl rfl <| .gno rfl .g0 rfl rfl <| .gno rfl .g0 rfl rfl <| .gno rfl .g0 rfl rfl <| .gno rfl .g0 rfl rfl <| .opp (P.pickT .t0 .k) rfl <| .opp (P.mov .t0) rfl <| .gno rfl .g0 rfl rfl ?_
        refine .gno rfl .g0 rfl rfl <| .gno rfl .g0 rfl rfl <| .gno rfl .g0 rfl rfl <| .gno rfl .g0 rfl rfl <| .opp (P.pickT .t0 .k) rfl <| .opp (P.mov .t0) rfl <| .gno rfl .g0 rfl rfl <| .gno rfl .g0 rfl rfl <| .gno rfl .g0 rfl rfl <| .gno rfl .g0 rfl rfl <| .gno rfl .g0 rfl rfl <| .gno rfl .g0 rfl rfl ?_
        refine .gno rfl .g0 rfl rfl <| .opp (P.pickT .t0 .k) rfl <| .nil ?_
        cases hj14
        exact .stj () (.cons Mm.m0 (.cons Mm.m1 (.cons Mm.m2 (.cons Mm.m3 (.cons Mm.m4 .nil))))) (.of (.cons .k3 (.cons .k2 (.cons .k1 .nil)))) (.cons Mm.m0 .nil)
      · rw [if_neg (ne_true_of_eq_false c20)] at hj14
        refine .gyes rfl .g0 <| .opp (P.mov .g2) rfl <| .gyes rfl .g1 <| .opp (P.mov .g2) rfl <| .gyes rfl .g2 <| .ixql .k1 (show [[nilp], [(pt b5 0)]][0]? = some [nilp] from rfl) fun p21 q22 hq23 => .opp (P.ixi (i := 0) .t0 rfl .t0 hq23 runUnderlying84 sizeOf26) rfl <| .gyes rfl .g1 <| .op (V.ldxl0 (u := nilp) .t0 hq23 .k1 (show [[nilp], [(pt b5 0)]][0]? = some [nilp] from rfl) (.one isAgg26 rfl)) rfl <| .gyes rfl .g1 ?_
        obtain ⟨r24, hr25, hj14⟩ := bnd_eq hj14
        refine .opg (G.call call14 (.cons .t0 .nil) (S_world_World_Mail_bx nilp none r24 hr25) (.cons .k0 .nil) .nil (fun _ _ => rfl) (fun _ _ => rfl) rfl) rfl fun ⟨u26, w27⟩ _ => .gyes rfl .g1 <| .gzl Mm.m1 fun hz28 => .op (V.lnr (n := r24.length) .t0 Mm.m0 (zip_len hz28) runUnderlying46) rfl <| .gyes rfl .g1 <| .opp (P.bin .t0 .k .neq) rfl <| .opp (P.pickF .t1 .t0) rfl <| .opp (P.mov .t0) rfl <| .split .k0 (fun c29 => ?_) (fun c29 => ?_)
        · rw [if_pos c29] at hj14
          refine .gno rfl .g0 rfl rfl <| .gno rfl .g0 rfl rfl <| .gno rfl .g0 rfl rfl <| .gno rfl .g0 rfl rfl <| .gno rfl .g0 rfl rfl <| .gno rfl .g0 rfl rfl <| .opp (P.pickT .t0 .k) rfl <| .opp (P.mov .t0) rfl <| .gno rfl .g0 rfl rfl <| .gno rfl .g0 rfl rfl <| .gno rfl .g0 rfl rfl <| .gno rfl .g0 rfl rfl ?_
          refine .gno rfl .g0 rfl rfl <| .gno rfl .g0 rfl rfl <| .opp (P.pickT .t0 .k) rfl <| .opp (P.mov .t0) rfl <| .gno rfl .g0 rfl rfl <| .gno rfl .g0 rfl rfl <| .gno rfl .g0 rfl rfl <| .gno rfl .g0 rfl rfl <| .gno rfl .g0 rfl rfl <| .gno rfl .g0 rfl rfl <| .opp (P.pickT .t0 .k) rfl <| .opp (P.mov .t0) rfl ?_
          refine .gno rfl .g0 rfl rfl <| .gno rfl .g0 rfl rfl <| .gno rfl .g0 rfl rfl <| .gno rfl .g0 rfl rfl <| .gno rfl .g0 rfl rfl <| .opp (P.pickT .t0 .k) rfl <| .opp (P.mov .t0) rfl <| .gno rfl .g0 rfl rfl <| .gno rfl .g0 rfl rfl <| .gno rfl .g0 rfl rfl <| .gno rfl .g0 rfl rfl <| .gno rfl .g0 rfl rfl ?_
          refine .opp (P.pickT .t0 .k) rfl <| .opp (P.mov .t0) rfl <| .gno rfl .g0 rfl rfl <| .gno rfl .g0 rfl rfl <| .gno rfl .g0 rfl rfl <| .gno rfl .g0 rfl rfl <| .gno rfl .g0 rfl rfl <| .opp (P.pickT .t0 .k) rfl <| .opp (P.mov .t0) rfl <| .gno rfl .g0 rfl rfl <| .gno rfl .g0 rfl rfl <| .gno rfl .g0 rfl rfl ?_
          refine .gno rfl .g0 rfl rfl <| .gno rfl .g0 rfl rfl <| .gno rfl .g0 rfl rfl <| .gno rfl .g0 rfl rfl <| .opp (P.pickT .t0 .k) rfl <| .nil ?_
          cases hj14
          exact .stj () (.cons Mm.m0 (.cons Mm.m1 (.cons Mm.m2 (.cons Mm.m3 (.cons Mm.m4 .nil))))) (.of (.cons .k3 (.cons .k2 (.cons .k1 .nil)))) (.cons Mm.m2 .nil)
        · rw [if_neg (ne_true_of_eq_false c29)] at hj14
          refine .gyes rfl .g0 <| .opp (P.mov .g2) rfl <| .gyes rfl .g1 <| .opp (P.mov .g2) rfl <| .gyes rfl .g2 <| .ixql .k1 (show [[nilp], [(pt b5 0)]][0]? = some [nilp] from rfl) fun p30 q31 hq32 => .opp (P.ixi (i := 0) .t0 rfl .t0 hq32 runUnderlying84 sizeOf26) rfl <| .gyes rfl .g1 <| .op (V.ldxl0 (u := nilp) .t0 hq32 .k1 (show [[nilp], [(pt b5 0)]][0]? = some [nilp] from rfl) (.one isAgg26 rfl)) rfl <| .gyes rfl .g1 ?_
          obtain ⟨r33, hr34, hj14⟩ := bnd_eq hj14
          refine .opg (G.call call11 (.cons .t0 (.cons .k .nil)) (S_world_World_Side_nil_k0  r33 hr34) .nil .nil (fun _ _ => rfl) (fun _ _ => rfl) rfl) rfl fun u35 _ => .gyes rfl .g1 <| .fact .k0 (fun _ hh => bx_nil (P := Tryz.prog) (t := 30) (e := 99) (by kernel_rfl) hh) fun hq36 => .opp (P.bin .t0 .k hq36.2) rfl <| .opp (P.pickF .t1 .t0) rfl <| .opp (P.mov .t0) rfl <| .split .k0 (fun c37 => ?_) (fun c37 => ?_)
          · rw [if_pos c37] at hj14
            refine .gno rfl .g0 rfl rfl <| .gno rfl .g0 rfl rfl <| .gno rfl .g0 rfl rfl <| .gno rfl .g0 rfl rfl <| .gno rfl .g0 rfl rfl <| .gno rfl .g0 rfl rfl <| .opp (P.pickT .t0 .k) rfl <| .opp (P.mov .t0) rfl <| .gno rfl .g0 rfl rfl <| .gno rfl .g0 rfl rfl <| .gno rfl .g0 rfl rfl <| .gno rfl .g0 rfl rfl ?_
            refine .gno rfl .g0 rfl rfl <| .gno rfl .g0 rfl rfl <| .opp (P.pickT .t0 .k) rfl <| .opp (P.mov .t0) rfl <| .gno rfl .g0 rfl rfl <| .gno rfl .g0 rfl rfl <| .gno rfl .g0 rfl rfl <| .gno rfl .g0 rfl rfl <| .gno rfl .g0 rfl rfl <| .opp (P.pickT .t0 .k) rfl <| .opp (P.mov .t0) rfl <| .gno rfl .g0 rfl rfl ?_
            refine .gno rfl .g0 rfl rfl <| .gno rfl .g0 rfl rfl <| .gno rfl .g0 rfl rfl <| .gno rfl .g0 rfl rfl <| .opp (P.pickT .t0 .k) rfl <| .opp (P.mov .t0) rfl <| .gno rfl .g0 rfl rfl <| .gno rfl .g0 rfl rfl <| .gno rfl .g0 rfl rfl <| .gno rfl .g0 rfl rfl <| .gno rfl .g0 rfl rfl <| .opp (P.pickT .t0 .k) rfl ?_
            refine .opp (P.mov .t0) rfl <| .gno rfl .g0 rfl rfl <| .gno rfl .g0 rfl rfl <| .gno rfl .g0 rfl rfl <| .gno rfl .g0 rfl rfl <| .gno rfl .g0 rfl rfl <| .gno rfl .g0 rfl rfl <| .gno rfl .g0 rfl rfl <| .opp (P.pickT .t0 .k) rfl <| .nil ?_
            cases hj14
            exact .stj () (.cons Mm.m0 (.cons Mm.m1 (.cons Mm.m2 (.cons Mm.m3 (.cons Mm.m4 .nil))))) (.of (.cons .k4 (.cons .k3 (.cons .k2 .nil)))) (.cons Mm.m2 .nil)
          · rw [if_neg (ne_true_of_eq_false c37)] at hj14
            refine .gyes rfl .g0 <| .opp (P.mov .g2) rfl <| .gyes rfl .g1 <| .opp (P.mov .g2) rfl <| .gyes rfl .g2 <| .ixql .k2 (show [[nilp], [(pt b5 0)]][0]? = some [nilp] from rfl) fun p38 q39 hq40 => .opp (P.ixi (i := 0) .t0 rfl .t0 hq40 runUnderlying84 sizeOf26) rfl <| .gyes rfl .g1 <| .op (V.ldxl0 (u := nilp) .t0 hq40 .k2 (show [[nilp], [(pt b5 0)]][0]? = some [nilp] from rfl) (.one isAgg26 rfl)) rfl <| .gyes rfl .g1 ?_
            obtain ⟨r41, hr42, hj14⟩ := bnd_eq hj14
            refine .opg (G.call call19 (.cons .t0 (.cons .k .nil)) (S_world_World_Client_nil 0 r41 hr42) .nil .nil (fun _ _ => rfl) (fun _ _ => rfl) rfl) rfl fun u43 _ => .gyes rfl .g1 <| .fact .k0 (fun _ hh => bx_nil (P := Tryz.prog) (t := 52) (e := 147) (by kernel_rfl) hh) fun hq44 => .opp (P.bin .t0 .k hq44.2) rfl <| .opp (P.pickF .t1 .t0) rfl <| .opp (P.mov .t0) rfl <| .split .k0 (fun c45 => ?_) (fun c45 => ?_)
            · rw [if_pos c45] at hj14
              refine .gno rfl .g0 rfl rfl <| .gno rfl .g0 rfl rfl <| .gno rfl .g0 rfl rfl <| .gno rfl .g0 rfl rfl <| .gno rfl .g0 rfl rfl <| .gno rfl .g0 rfl rfl <| .opp (P.pickT .t0 .k) rfl <| .opp (P.mov .t0) rfl <| .gno rfl .g0 rfl rfl <| .gno rfl .g0 rfl rfl <| .gno rfl .g0 rfl rfl <| .gno rfl .g0 rfl rfl ?_
              refine .gno rfl .g0 rfl rfl <| .opp (P.pickT .t0 .k) rfl <| .opp (P.mov .t0) rfl <| .gno rfl .g0 rfl rfl <| .gno rfl .g0 rfl rfl <| .gno rfl .g0 rfl rfl <| .gno rfl .g0 rfl rfl <| .gno rfl .g0 rfl rfl <| .opp (P.pickT .t0 .k) rfl <| .opp (P.mov .t0) rfl <| .gno rfl .g0 rfl rfl <| .gno rfl .g0 rfl rfl ?_
              refine .gno rfl .g0 rfl rfl <| .gno rfl .g0 rfl rfl <| .gno rfl .g0 rfl rfl <| .opp (P.pickT .t0 .k) rfl <| .opp (P.mov .t0) rfl <| .gno rfl .g0 rfl rfl <| .gno rfl .g0 rfl rfl <| .gno rfl .g0 rfl rfl <| .gno rfl .g0 rfl rfl <| .gno rfl .g0 rfl rfl <| .gno rfl .g0 rfl rfl <| .gno rfl .g0 rfl rfl ?_
              refine .opp (P.pickT .t0 .k) rfl <| .nil ?_
              cases hj14
              exact .stj () (.cons Mm.m0 (.cons Mm.m1 (.cons Mm.m2 (.cons Mm.m3 (.cons Mm.m4 .nil))))) (.of (.cons .k5 (.cons .k4 (.cons .k3 .nil)))) (.cons Mm.m2 .nil)
            · rw [if_neg (ne_true_of_eq_false c45)] at hj14
              refine .gyes rfl .g0 <| .opp (P.mov .g2) rfl <| .gyes rfl .g1 <| .opp (P.mov .g2) rfl <| .gyes rfl .g2 <| .ixql .k3 (show [[nilp], [(pt b5 0)]][0]? = some [nilp] from rfl) fun p46 q47 hq48 => .opp (P.ixi (i := 0) .t0 rfl .t0 hq48 runUnderlying84 sizeOf26) rfl <| .gyes rfl .g1 <| .op (V.ldxl0 (u := nilp) .t0 hq48 .k3 (show [[nilp], [(pt b5 0)]][0]? = some [nilp] from rfl) (.one isAgg26 rfl)) rfl <| .gyes rfl .g1 ?_
              obtain ⟨r49, hr50, hj14⟩ := bnd_eq hj14
              refine .opg (G.call call20 (.cons .t0 (.cons .k .nil)) (S_world_World_Router_nil 2 r49 hr50) .nil .nil (fun _ _ => rfl) (fun _ _ => rfl) rfl) rfl fun u51 _ => .gyes rfl .g1 <| .fact .k0 (fun _ hh => bx_nil (P := Tryz.prog) (t := 54) (e := 135) (by kernel_rfl) hh) fun hq52 => .opp (P.bin .t0 .k hq52.2) rfl <| .opp (P.pickF .t1 .t0) rfl <| .opp (P.mov .t0) rfl <| .split .k0 (fun c53 => ?_) (fun c53 => ?_)
              · rw [if_pos c53] at hj14
                refine .gno rfl .g0 rfl rfl <| .gno rfl .g0 rfl rfl <| .gno rfl .g0 rfl rfl <| .gno rfl .g0 rfl rfl <| .gno rfl .g0 rfl rfl <| .opp (P.pickT .t0 .k) rfl <| .opp (P.mov .t0) rfl <| .gno rfl .g0 rfl rfl <| .gno rfl .g0 rfl rfl <| .gno rfl .g0 rfl rfl <| .gno rfl .g0 rfl rfl <| .gno rfl .g0 rfl rfl ?_
                refine .opp (P.pickT .t0 .k) rfl <| .opp (P.mov .t0) rfl <| .gno rfl .g0 rfl rfl <| .gno rfl .g0 rfl rfl <| .gno rfl .g0 rfl rfl <| .gno rfl .g0 rfl rfl <| .gno rfl .g0 rfl rfl <| .opp (P.pickT .t0 .k) rfl <| .opp (P.mov .t0) rfl <| .gno rfl .g0 rfl rfl <| .gno rfl .g0 rfl rfl <| .gno rfl .g0 rfl rfl ?_
                refine .gno rfl .g0 rfl rfl <| .gno rfl .g0 rfl rfl <| .gno rfl .g0 rfl rfl <| .gno rfl .g0 rfl rfl <| .opp (P.pickT .t0 .k) rfl <| .nil ?_
                cases hj14
                exact .stj () (.cons Mm.m0 (.cons Mm.m1 (.cons Mm.m2 (.cons Mm.m3 (.cons Mm.m4 .nil))))) (.of (.cons .k6 (.cons .k5 (.cons .k4 .nil)))) (.cons Mm.m2 .nil)
              · rw [if_neg (ne_true_of_eq_false c53)] at hj14
                refine .gyes rfl .g0 <| .opp (P.mov .g2) rfl <| .gyes rfl .g1 <| .opp (P.mov .g2) rfl <| .gyes rfl .g2 <| .ixql .k4 (show [[nilp], [(pt b5 0)]][0]? = some [nilp] from rfl) fun p54 q55 hq56 => .opp (P.ixi (i := 0) .t0 rfl .t0 hq56 runUnderlying84 sizeOf26) rfl <| .gyes rfl .g1 <| .op (V.ldxl0 (u := nilp) .t0 hq56 .k4 (show [[nilp], [(pt b5 0)]][0]? = some [nilp] from rfl) (.one isAgg26 rfl)) rfl <| .gyes rfl .g1 ?_
                obtain ⟨r57, hr58, hj14⟩ := bnd_eq hj14
                refine .opg (G.call call13 (.cons .t0 (.cons .k .nil)) (S_world_World_Late_bx nilp none 0 r57 hr58) (.cons .k3 .nil) .nil (fun _ _ => rfl) (fun _ _ => rfl) rfl) rfl fun _ _ => .opp (P.pickF .t1 .t0) rfl <| .opp (P.mov .t0) rfl <| .split .k0 (fun c59 => ?_) (fun c59 => ?_)
                · rw [if_pos c59] at hj14
                  refine .gno rfl .g0 rfl rfl <| .gno rfl .g0 rfl rfl <| .gno rfl .g0 rfl rfl <| .gno rfl .g0 rfl rfl <| .gno rfl .g0 rfl rfl <| .opp (P.pickT .t0 .k) rfl <| .opp (P.mov .t0) rfl <| .gno rfl .g0 rfl rfl <| .gno rfl .g0 rfl rfl <| .gno rfl .g0 rfl rfl <| .gno rfl .g0 rfl rfl <| .gno rfl .g0 rfl rfl ?_
                  refine .opp (P.pickT .t0 .k) rfl <| .opp (P.mov .t0) rfl <| .gno rfl .g0 rfl rfl <| .gno rfl .g0 rfl rfl <| .gno rfl .g0 rfl rfl <| .gno rfl .g0 rfl rfl <| .gno rfl .g0 rfl rfl <| .gno rfl .g0 rfl rfl <| .gno rfl .g0 rfl rfl <| .opp (P.pickT .t0 .k) rfl <| .nil ?_
                  cases hj14
                  exact .stj () (.cons Mm.m0 (.cons Mm.m1 (.cons Mm.m2 (.cons Mm.m3 (.cons Mm.m4 .nil))))) (.of (.cons .k6 (.cons .k5 (.cons .k4 .nil)))) (.cons Mm.m2 .nil)
                · rw [if_neg (ne_true_of_eq_false c59)] at hj14
                  refine .gyes rfl .g0 <| .opp (P.mov .g2) rfl <| .gyes rfl .g1 <| .opp (P.mov .g2) rfl <| .gyes rfl .g2 <| .ixql .k4 (show [[nilp], [(pt b5 0)]][0]? = some [nilp] from rfl) fun p60 q61 hq62 => .opp (P.ixi (i := 0) .t0 rfl .t0 hq62 runUnderlying84 sizeOf26) rfl <| .gyes rfl .g1 <| .op (V.ldxl0 (u := nilp) .t0 hq62 .k4 (show [[nilp], [(pt b5 0)]][0]? = some [nilp] from rfl) (.one isAgg26 rfl)) rfl <| .gyes rfl .g1 ?_
                  obtain ⟨r63, hr64, hj14⟩ := bnd_eq hj14
                  refine .opg (G.call call16 (.cons .t0 .nil) (S_world_World_Forged_bx nilp none r63 hr64) (.cons .k0 .nil) .nil (fun _ _ => rfl) (fun _ _ => rfl) rfl) rfl fun _ _ => .opp (P.pickF .t1 .t0) rfl <| .opp (P.mov .t0) rfl <| .split .k0 (fun c65 => ?_) (fun c65 => ?_)
                  · rw [if_pos c65] at hj14
                    refine .gno rfl .g0 rfl rfl <| .gno rfl .g0 rfl rfl <| .gno rfl .g0 rfl rfl <| .gno rfl .g0 rfl rfl <| .gno rfl .g0 rfl rfl <| .opp (P.pickT .t0 .k) rfl <| .opp (P.mov .t0) rfl <| .gno rfl .g0 rfl rfl <| .gno rfl .g0 rfl rfl <| .gno rfl .g0 rfl rfl <| .gno rfl .g0 rfl rfl <| .gno rfl .g0 rfl rfl ?_
                    refine .gno rfl .g0 rfl rfl <| .gno rfl .g0 rfl rfl <| .opp (P.pickT .t0 .k) rfl <| .nil ?_
                    cases hj14
                    exact .stj () (.cons Mm.m0 (.cons Mm.m1 (.cons Mm.m2 (.cons Mm.m3 (.cons Mm.m4 .nil))))) (.of (.cons .k6 (.cons .k5 (.cons .k4 .nil)))) (.cons Mm.m2 .nil)
                  · rw [if_neg (ne_true_of_eq_false c65)] at hj14
                    refine .gyes rfl .g0 <| .opp (P.mov .g2) rfl <| .gyes rfl .g1 <| .opp (P.mov .g2) rfl <| .gyes rfl .g2 <| .ixql .k4 (show [[nilp], [(pt b5 0)]][0]? = some [nilp] from rfl) fun p66 q67 hq68 => .opp (P.ixi (i := 0) .t0 rfl .t0 hq68 runUnderlying84 sizeOf26) rfl <| .gyes rfl .g1 <| .op (V.ldxl0 (u := nilp) .t0 hq68 .k4 (show [[nilp], [(pt b5 0)]][0]? = some [nilp] from rfl) (.one isAgg26 rfl)) rfl <| .gyes rfl .g1 ?_
                    obtain ⟨r69, hr70, hj14⟩ := bnd_eq hj14
                    refine .opg (G.call call17 (.cons .t0 .nil) (S_world_World_Clash_bx nilp none r69 hr70) (.cons .k0 .nil) .nil (fun _ _ => rfl) (fun _ _ => rfl) rfl) rfl fun _ _ => .opp (P.pickF .t1 .t0) rfl <| .opp (P.mov .t0) rfl <| .split .k0 (fun c71 => ?_) (fun c71 => ?_)
                    · rw [if_pos c71] at hj14
                      refine .gno rfl .g0 rfl rfl <| .gno rfl .g0 rfl rfl <| .gno rfl .g0 rfl rfl <| .gno rfl .g0 rfl rfl <| .gno rfl .g0 rfl rfl <| .gno rfl .g0 rfl rfl <| .gno rfl .g0 rfl rfl <| .opp (P.pickT .t0 .k) rfl <| .nil ?_
                      cases hj14
                      exact .stj () (.cons Mm.m0 (.cons Mm.m1 (.cons Mm.m2 (.cons Mm.m3 (.cons Mm.m4 .nil))))) (.of (.cons .k6 (.cons .k5 (.cons .k4 .nil)))) (.cons Mm.m2 .nil)
                    · rw [if_neg (ne_true_of_eq_false c71)] at hj14
                      refine .gyes rfl .g0 <| .opp (P.mov .g2) rfl <| .gyes rfl .g1 <| .opp (P.mov .g2) rfl <| .gyes rfl .g2 <| .ixql .k4 (show [[nilp], [(pt b5 0)]][0]? = some [nilp] from rfl) fun p72 q73 hq74 => .opp (P.ixi (i := 0) .t0 rfl .t0 hq74 runUnderlying84 sizeOf26) rfl <| .gyes rfl .g1 <| .op (V.ldxl0 (u := nilp) .t0 hq74 .k4 (show [[nilp], [(pt b5 0)]][0]? = some [nilp] from rfl) (.one isAgg26 rfl)) rfl <| .gyes rfl .g1 ?_
                      obtain ⟨r75, hr76, hj14⟩ := bnd_eq hj14
                      refine .opg (G.call call21 (.cons .t0 .nil) (S_world_World_Setup_bx nilp none r75 hr76) (.cons .k0 .nil) .nil (fun _ _ => rfl) (fun _ _ => rfl) rfl) rfl fun _ _ => .gyes rfl .g1 <| .opp (P.bld (v := Ag (world_Setup.cs ⟨0, 0, 0, 0⟩)) .nil (bld_run zeroValue23 runUnderlying23 pl_23 (by kernel_rfl))) rfl <| .gyes rfl .g2 <| .opp (P.bin .t1 .t0 (eq_23_neq _ _)) rfl <| .opp (P.pickF .t1 .t0) rfl <| .nil ?_
                      cases hj14
                      exact .stj () (.cons Mm.m0 (.cons Mm.m1 (.cons Mm.m2 (.cons Mm.m3 (.cons Mm.m4 .nil))))) (.of (.cons .k6 (.cons .k5 (.cons .k4 .nil)))) (.cons Mm.m2 .nil)
    · clear hj14
      refine .cond .t0 (fun c77 => ?_) (fun c77 => ?_)
      · rw [if_pos c77] at h
        refine .seq <| .reg rfl <| .opp (P.asg .k) rfl <| .nil <| .then <| .ret <| .inr <| .thr <| .thr <| .inr <| .thr ?_
        cases h
        exact .finw () (.r1 rfl (.tmp .g0)) trivial (Ls.of .nil) .nil
      · rw [if_neg (ne_true_of_eq_false c77)] at h
        refine .skip <| .inn <| .then <| .reg rfl <| .opp (P.mov .g0) rfl <| .opp (P.bin (v := N 1) .t0 .k (.addc (by decide))) rfl <| .drop .k1 <| .opp (P.asg .t0) rfl <| .nil <| .then <| .rd <| .seq ?_
        refine .seq <| .reg rfl <| .opp (P.mov .g0) rfl <| .opp (P.mov .g2) rfl <| .op (V.lnl (n := 2) .t0 .k2 rfl runUnderlying84) rfl <| .opp (P.bin (v := Bo true) .t1 .t0 (BinV.lss.boolc (by decide))) rfl <| .nil <| .then <| .condT .t0 <| .skip <| .then <| .seq ?_
        refine .block <| .seq <| .drawl [blk b1 70 (api_Step.cs a0 z00a), lst 26 1 u6 [[nilp], [(pt b5 0)]]] [rows 1 z00a (a0.Data.map (fun x => [B8 x]))] (Ls.of (.cons .k0 (.cons .k1 .nil))) (Rs.cons Mm.m0 Rs.nil) 6 (.on 0 .pu (.on 1 .pu (.on 2 .pu (.on 3 .ld (.on 4 .ld (.on 5 .go .nl)))))) follows_mixed (.thn (.inb (.thn (.thn (.inb (.thn .body)))))) (by kernel_rfl) <| .dpu rfl (.n rfl) (P.mov .g1) rfl rfl <| .dpu rfl (.n rfl) (P.mov .g1) rfl rfl <| .ixql .k2 (show [[nilp], [(pt b5 0)]][1]? = some [(pt b5 0)] from rfl) fun p78 q79 hq80 => .dpu rfl (.n rfl) (P.ixi (i := 1) .t0 rfl .t0 hq80 runUnderlying84 sizeOf26) rfl rfl <| .dld rfl (.n rfl) (V.ldxl0 (u := (pt b5 0)) .t0 hq80 .k1 (show [[nilp], [(pt b5 0)]][1]? = some [(pt b5 0)] from rfl) (.one isAgg26 rfl)) (fun _ h => (h.imp (Ls.of (.cons .k0 (.cons .k1 .nil)))).ro (Rs.cons Mm.m0 Rs.nil)) rfl rfl <| .dld rfl (.n rfl) (V.ld (v := Ag (api_Step.cs a0 z00a)) .g3 .k0 (.agg isAgg70 sizeOf70 rfl rfl)) (fun _ h => (h.imp (Ls.of (.cons .k0 (.cons .k1 .nil)))).ro (Rs.cons Mm.m0 Rs.nil)) rfl rfl <| .bxn chain_Chain.bd chain_Chain.fp <| .bxn chain_Chain.bd chain_Chain.fp <| .bxn client_Client.bd client_Client.fp ?_
        refine .bxn client_Client.bd client_Client.fp <| .bxn router_Router.bd router_Router.fp <| .bxn router_Router.bd router_Router.fp <| .bxn relay_Relay.bd relay_Relay.fp <| .mbn (fun (x : world_place) => Ag x.cs) (fun (x : Int) => N x) <| .mbn (fun (x : world_word) => Ag x.cs) (fun (x : Bool) => Bo x) <| .mbn (fun (x : ByteArray) => Value.string x) (fun (x : api_Inv) => Ag x.cs) <| .mbn (fun (x : ByteArray) => Value.string x) (fun (x : world_data) => Ag x.cs) ?_
        obtain ⟨r81, hr82, h⟩ := bnd_eq h
        refine .dgo rfl (.n rfl) (G.call call25 (.cons .t1 (.cons .t0 .nil)) (S_world_World_Step b5 (⟨⟨0, 0, 0, 0⟩, ⟨none, none⟩, ⟨none, none⟩, ⟨none, none⟩, none, (), 0, ⟨0, 0, 0, 0⟩, ⟨false, false, false, false⟩, none, none, none, none, ⟨0, 0⟩, false, false⟩ : world_World) nilp nilp nilp nilp nilp nilp nilp (.map none) (.map none) (.map none) (.map none) a0 z00a r81 hr82) (.cons .k12 (.cons .k9 (.cons .k9 (.cons .k7 (.cons .k7 (.cons .k5 (.cons .k5 (.cons .k4 (.cons .k3 (.cons .k2 (.cons .k1 (.cons .k0 .nil)))))))))))) (.cons Mm.m0 .nil) (fun _ _ => rfl) (fun _ _ => rfl) rfl) (.inr fun _ _ _ h => (h.imp (Ls.of (.cons .k12 (.cons .k12 .nil)))).ro (Rs.cons Mm.m0 Rs.nil)) fun u83 _ => .conseq .k1 (q := bx chain_Chain.bd chain_Chain.fp nilp none) (fun _ h_ => bx_nilp h_) <| .conseq .k2 (q := bx chain_Chain.bd chain_Chain.fp nilp none) (fun _ h_ => bx_nilp h_) <| .conseq .k3 (q := bx client_Client.bd client_Client.fp nilp none) (fun _ h_ => bx_nilp h_) <| .conseq .k4 (q := bx client_Client.bd client_Client.fp nilp none) (fun _ h_ => bx_nilp h_) <| .conseq .k5 (q := bx router_Router.bd router_Router.fp nilp none) (fun _ h_ => bx_nilp h_) <| .conseq .k6 (q := bx router_Router.bd router_Router.fp nilp none) (fun _ h_ => bx_nilp h_) <| .conseq .k7 (q := bx relay_Relay.bd relay_Relay.fp nilp none) (fun _ h_ => bx_nilp h_) <| .conseq .k9 (q := mb (fun (x : world_word) => Ag x.cs) (fun (x : Bool) => Bo x) (.map none) none) (fun _ h_ => mb_nilp h_) <| .conseq .k10 (q := mb (fun (x : ByteArray) => Value.string x) (fun (x : api_Inv) => Ag x.cs) (.map none) none) (fun _ h_ => mb_nilp h_) <| .conseq .k11 (q := mb (fun (x : ByteArray) => Value.string x) (fun (x : world_data) => Ag x.cs) (.map none) none) (fun _ h_ => mb_nilp h_) <| .drop .k0 ?_
        refine .dnil <| .then ?_
        obtain ⟨y84, hj86, h⟩ := bnd_eq h
        refine .cutx (γ := Unit) (E1 := fun z85 => [(96, Bo y84), (7, N 1), (6, u6), (2, pt b1 0), (1, N a1)]) (L1 := fun z85 => [blk b1 70 (api_Step.cs a0 z00a), blk b5 83 (world_World.cs ⟨r81.setup, ⟨none, none⟩, ⟨none, none⟩, ⟨none, none⟩, none, r81.mail, r81.now, r81.seen, r81.late, r81.since, none, none, none, r81.asked, r81.forged, r81.clash⟩ nilp nilp nilp nilp nilp nilp nilp u83 (.map none) (.map none) (.map none)), lst 26 1 u6 [[nilp], [(pt b5 0)]], mb (fun (x : world_place) => Ag x.cs) (fun (x : Int) => N x) u83 r81.since]) (R1 := fun z85 => [rows 1 z00a (a0.Data.map (fun x => [B8 x]))]) ?_ (fun z85 => ?_)
        · clear h
          refine .reg rfl <| .opp (P.mov .g1) rfl <| .opp (P.mov .g1) rfl <| .ixql .k13 (show [[nilp], [(pt b5 0)]][1]? = some [(pt b5 0)] from rfl) fun p87 q88 hq89 => .opp (P.ixi (i := 1) .t0 rfl .t0 hq89 runUnderlying84 sizeOf26) rfl <| .op (V.ldxl0 (u := (pt b5 0)) .t0 hq89 .k13 (show [[nilp], [(pt b5 0)]][1]? = some [(pt b5 0)] from rfl) (.one isAgg26 rfl)) rfl <| .opg (G.call call15 (.cons .t0 .nil) (S_world_World_Now b5 (⟨r81.setup, ⟨none, none⟩, ⟨none, none⟩, ⟨none, none⟩, none, r81.mail, r81.now, r81.seen, r81.late, r81.since, none, none, none, r81.asked, r81.forged, r81.clash⟩ : world_World) nilp nilp nilp nilp nilp nilp nilp u83 (.map none) (.map none) (.map none) _ rfl) (.cons .k10 (.cons .k8 (.cons .k8 (.cons .k6 (.cons .k6 (.cons .k4 (.cons .k4 (.cons .k3 (.cons .k3 (.cons .k2 (.cons .k1 (.cons .k0 .nil)))))))))))) .nil (fun _ _ => rfl) (fun _ _ => rfl) rfl) rfl fun _ _ => .opp (P.bin .t0 .k .neq) rfl <| .opp (P.mov .t0) rfl <| .split .k0 (fun c90 => ?_) (fun c90 => ?_)
          · rw [if_pos c90] at hj86
            refine .gno rfl .g0 rfl rfl <| .gno rfl .g0 rfl rfl <| .gno rfl .g0 rfl rfl <| .gno rfl .g0 rfl rfl <| .gno rfl .g0 rfl rfl <| .gno rfl .g0 rfl rfl <| .gno rfl .g0 rfl rfl <| .opp (P.pickT .t0 .k) rfl <| .opp (P.mov .t0) rfl <| .gno rfl .g0 rfl rfl <| .gno rfl .g0 rfl rfl <| .gno rfl .g0 rfl rfl ?_
            refine .gno rfl .g0 rfl rfl <| .gno rfl .g0 rfl rfl <| .gno rfl .g0 rfl rfl <| .opp (P.pickT .t0 .k) rfl <| .opp (P.mov .t0) rfl <| .gno rfl .g0 rfl rfl <| .gno rfl .g0 rfl rfl <| .gno rfl .g0 rfl rfl <| .gno rfl .g0 rfl rfl <| .gno rfl .g0 rfl rfl <| .gno rfl .g0 rfl rfl <| .opp (P.pickT .t0 .k) rfl ?_
            refine .opp (P.mov .t0) rfl <| .gno rfl .g0 rfl rfl <| .gno rfl .g0 rfl rfl <| .gno rfl .g0 rfl rfl <| .gno rfl .g0 rfl rfl <| .gno rfl .g0 rfl rfl <| .gno rfl .g0 rfl rfl <| .opp (P.pickT .t0 .k) rfl <| .opp (P.mov .t0) rfl <| .gno rfl .g0 rfl rfl <| .gno rfl .g0 rfl rfl <| .gno rfl .g0 rfl rfl ?_
            refine .gno rfl .g0 rfl rfl <| .gno rfl .g0 rfl rfl <| .opp (P.pickT .t0 .k) rfl <| .opp (P.mov .t0) rfl <| .gno rfl .g0 rfl rfl <| .gno rfl .g0 rfl rfl <| .gno rfl .g0 rfl rfl <| .gno rfl .g0 rfl rfl <| .gno rfl .g0 rfl rfl <| .opp (P.pickT .t0 .k) rfl <| .opp (P.mov .t0) rfl <| .gno rfl .g0 rfl rfl ?_
            refine .gno rfl .g0 rfl rfl <| .gno rfl .g0 rfl rfl <| .gno rfl .g0 rfl rfl <| .gno rfl .g0 rfl rfl <| .opp (P.pickT .t0 .k) rfl <| .opp (P.mov .t0) rfl <| .gno rfl .g0 rfl rfl <| .gno rfl .g0 rfl rfl <| .gno rfl .g0 rfl rfl <| .gno rfl .g0 rfl rfl <| .gno rfl .g0 rfl rfl <| .gno rfl .g0 rfl rfl ?_
            refine .gno rfl .g0 rfl rfl <| .opp (P.pickT .t0 .k) rfl <| .nil ?_
            cases hj86
            exact .stj () (.cons Mm.m0 (.cons Mm.m1 (.cons Mm.m2 (.cons Mm.m3 (.cons Mm.m4 .nil))))) (.of (.cons .k12 (.cons .k0 (.cons .k11 (.cons .k7 .nil))))) (.cons Mm.m0 .nil)
          · rw [if_neg (ne_true_of_eq_false c90)] at hj86
            refine .gyes rfl .g0 <| .opp (P.mov .g2) rfl <| .gyes rfl .g1 <| .opp (P.mov .g2) rfl <| .gyes rfl .g2 <| .ixql .k13 (show [[nilp], [(pt b5 0)]][1]? = some [(pt b5 0)] from rfl) fun p91 q92 hq93 => .opp (P.ixi (i := 1) .t0 rfl .t0 hq93 runUnderlying84 sizeOf26) rfl <| .gyes rfl .g1 <| .op (V.ldxl0 (u := (pt b5 0)) .t0 hq93 .k13 (show [[nilp], [(pt b5 0)]][1]? = some [(pt b5 0)] from rfl) (.one isAgg26 rfl)) rfl <| .gyes rfl .g1 ?_
            obtain ⟨r94, hr95, hj86⟩ := bnd_eq hj86
            refine .opg (G.call call14 (.cons .t0 .nil) (S_world_World_Mail b5 (⟨r81.setup, ⟨none, none⟩, ⟨none, none⟩, ⟨none, none⟩, none, r81.mail, r81.now, r81.seen, r81.late, r81.since, none, none, none, r81.asked, r81.forged, r81.clash⟩ : world_World) nilp nilp nilp nilp nilp nilp nilp u83 (.map none) (.map none) (.map none) r94 hr95) (.cons .k0 (.cons .k0 (.cons .k0 (.cons .k0 (.cons .k0 (.cons .k0 (.cons .k0 (.cons .k0 (.cons .k0 (.cons .k0 (.cons .k0 (.cons .k0 .nil)))))))))))) .nil (fun _ _ => rfl) (fun _ _ => rfl) rfl) rfl fun ⟨u96, w97⟩ _ => .gyes rfl .g1 <| .gzl Mm.m1 fun hz98 => .op (V.lnr (n := r94.length) .t0 Mm.m0 (zip_len hz98) runUnderlying46) rfl <| .gyes rfl .g1 <| .opp (P.bin .t0 .k .neq) rfl <| .opp (P.pickF .t1 .t0) rfl <| .opp (P.mov .t0) rfl <| .split .k0 (fun c99 => ?_) (fun c99 => ?_)
            · rw [if_pos c99] at hj86
              refine .gno rfl .g0 rfl rfl <| .gno rfl .g0 rfl rfl <| .gno rfl .g0 rfl rfl <| .gno rfl .g0 rfl rfl <| .gno rfl .g0 rfl rfl <| .gno rfl .g0 rfl rfl <| .opp (P.pickT .t0 .k) rfl <| .opp (P.mov .t0) rfl <| .gno rfl .g0 rfl rfl <| .gno rfl .g0 rfl rfl <| .gno rfl .g0 rfl rfl <| .gno rfl .g0 rfl rfl ?_
              refine .gno rfl .g0 rfl rfl <| .gno rfl .g0 rfl rfl <| .opp (P.pickT .t0 .k) rfl <| .opp (P.mov .t0) rfl <| .gno rfl .g0 rfl rfl <| .gno rfl .g0 rfl rfl <| .gno rfl .g0 rfl rfl <| .gno rfl .g0 rfl rfl <| .gno rfl .g0 rfl rfl <| .gno rfl .g0 rfl rfl <| .opp (P.pickT .t0 .k) rfl <| .opp (P.mov .t0) rfl ?_
              refine .gno rfl .g0 rfl rfl <| .gno rfl .g0 rfl rfl <| .gno rfl .g0 rfl rfl <| .gno rfl .g0 rfl rfl <| .gno rfl .g0 rfl rfl <| .opp (P.pickT .t0 .k) rfl <| .opp (P.mov .t0) rfl <| .gno rfl .g0 rfl rfl <| .gno rfl .g0 rfl rfl <| .gno rfl .g0 rfl rfl <| .gno rfl .g0 rfl rfl <| .gno rfl .g0 rfl rfl ?_
              refine .opp (P.pickT .t0 .k) rfl <| .opp (P.mov .t0) rfl <| .gno rfl .g0 rfl rfl <| .gno rfl .g0 rfl rfl <| .gno rfl .g0 rfl rfl <| .gno rfl .g0 rfl rfl <| .gno rfl .g0 rfl rfl <| .opp (P.pickT .t0 .k) rfl <| .opp (P.mov .t0) rfl <| .gno rfl .g0 rfl rfl <| .gno rfl .g0 rfl rfl <| .gno rfl .g0 rfl rfl ?_
              refine .gno rfl .g0 rfl rfl <| .gno rfl .g0 rfl rfl <| .gno rfl .g0 rfl rfl <| .gno rfl .g0 rfl rfl <| .opp (P.pickT .t0 .k) rfl <| .nil ?_
              cases hj86
              exact .stj () (.cons Mm.m0 (.cons Mm.m1 (.cons Mm.m2 (.cons Mm.m3 (.cons Mm.m4 .nil))))) (.of (.cons .k12 (.cons .k0 (.cons .k11 (.cons .k7 .nil))))) (.cons Mm.m2 .nil)
            · rw [if_neg (ne_true_of_eq_false c99)] at hj86
              refine .gyes rfl .g0 <| .opp (P.mov .g2) rfl <| .gyes rfl .g1 <| .opp (P.mov .g2) rfl <| .gyes rfl .g2 <| .ixql .k13 (show [[nilp], [(pt b5 0)]][1]? = some [(pt b5 0)] from rfl) fun p100 q101 hq102 => .opp (P.ixi (i := 1) .t0 rfl .t0 hq102 runUnderlying84 sizeOf26) rfl <| .gyes rfl .g1 <| .op (V.ldxl0 (u := (pt b5 0)) .t0 hq102 .k13 (show [[nilp], [(pt b5 0)]][1]? = some [(pt b5 0)] from rfl) (.one isAgg26 rfl)) rfl <| .gyes rfl .g1 <| .opg (G.call call11 (.cons .t0 (.cons .k .nil)) (S_world_World_Side_k0 b5 (⟨r81.setup, ⟨none, none⟩, ⟨none, none⟩, ⟨none, none⟩, none, r81.mail, r81.now, r81.seen, r81.late, r81.since, none, none, none, r81.asked, r81.forged, r81.clash⟩ : world_World) nilp nilp nilp nilp nilp nilp nilp u83 (.map none) (.map none) (.map none) _ rfl) (.cons .k0 (.cons .k0 (.cons .k0 (.cons .k0 (.cons .k0 (.cons .k0 (.cons .k0 (.cons .k0 (.cons .k0 (.cons .k0 (.cons .k0 (.cons .k0 .nil)))))))))))) .nil (fun _ _ => rfl) (fun _ _ => rfl) rfl) rfl fun _ _ => .gyes rfl .g1 ?_
              refine .opp (P.bin .t0 .k (pk_two (.nil_neq (e := 99) (by kernel_rfl)) (.nil_neq (e := 99) (by kernel_rfl)))) rfl <| .opp (P.pickF .t1 .t0) rfl <| .opp (P.mov .t0) rfl <| .split .k0 (fun c103 => ?_) (fun c103 => ?_)
              · rw [if_pos c103] at hj86
                refine .gno rfl .g0 rfl rfl <| .gno rfl .g0 rfl rfl <| .gno rfl .g0 rfl rfl <| .gno rfl .g0 rfl rfl <| .gno rfl .g0 rfl rfl <| .gno rfl .g0 rfl rfl <| .opp (P.pickT .t0 .k) rfl <| .opp (P.mov .t0) rfl <| .gno rfl .g0 rfl rfl <| .gno rfl .g0 rfl rfl <| .gno rfl .g0 rfl rfl <| .gno rfl .g0 rfl rfl ?_
                refine .gno rfl .g0 rfl rfl <| .gno rfl .g0 rfl rfl <| .opp (P.pickT .t0 .k) rfl <| .opp (P.mov .t0) rfl <| .gno rfl .g0 rfl rfl <| .gno rfl .g0 rfl rfl <| .gno rfl .g0 rfl rfl <| .gno rfl .g0 rfl rfl <| .gno rfl .g0 rfl rfl <| .opp (P.pickT .t0 .k) rfl <| .opp (P.mov .t0) rfl <| .gno rfl .g0 rfl rfl ?_
                refine .gno rfl .g0 rfl rfl <| .gno rfl .g0 rfl rfl <| .gno rfl .g0 rfl rfl <| .gno rfl .g0 rfl rfl <| .opp (P.pickT .t0 .k) rfl <| .opp (P.mov .t0) rfl <| .gno rfl .g0 rfl rfl <| .gno rfl .g0 rfl rfl <| .gno rfl .g0 rfl rfl <| .gno rfl .g0 rfl rfl <| .gno rfl .g0 rfl rfl <| .opp (P.pickT .t0 .k) rfl ?_
                refine .opp (P.mov .t0) rfl <| .gno rfl .g0 rfl rfl <| .gno rfl .g0 rfl rfl <| .gno rfl .g0 rfl rfl <| .gno rfl .g0 rfl rfl <| .gno rfl .g0 rfl rfl <| .gno rfl .g0 rfl rfl <| .gno rfl .g0 rfl rfl <| .opp (P.pickT .t0 .k) rfl <| .nil ?_
                cases hj86
                exact .stj () (.cons Mm.m0 (.cons Mm.m1 (.cons Mm.m2 (.cons Mm.m3 (.cons Mm.m4 .nil))))) (.of (.cons .k12 (.cons .k0 (.cons .k11 (.cons .k7 .nil))))) (.cons Mm.m2 .nil)
              · rw [if_neg (ne_true_of_eq_false c103)] at hj86
                refine .gyes rfl .g0 <| .opp (P.mov .g2) rfl <| .gyes rfl .g1 <| .opp (P.mov .g2) rfl <| .gyes rfl .g2 <| .ixql .k13 (show [[nilp], [(pt b5 0)]][1]? = some [(pt b5 0)] from rfl) fun p104 q105 hq106 => .opp (P.ixi (i := 1) .t0 rfl .t0 hq106 runUnderlying84 sizeOf26) rfl <| .gyes rfl .g1 <| .op (V.ldxl0 (u := (pt b5 0)) .t0 hq106 .k13 (show [[nilp], [(pt b5 0)]][1]? = some [(pt b5 0)] from rfl) (.one isAgg26 rfl)) rfl <| .gyes rfl .g1 ?_
                obtain ⟨r107, hr108, hj86⟩ := bnd_eq hj86
                refine .opg (G.call call19 (.cons .t0 (.cons .k .nil)) (S_world_World_Client b5 (⟨r81.setup, ⟨none, none⟩, ⟨none, none⟩, ⟨none, none⟩, none, r81.mail, r81.now, r81.seen, r81.late, r81.since, none, none, none, r81.asked, r81.forged, r81.clash⟩ : world_World) nilp nilp nilp nilp nilp nilp nilp u83 (.map none) (.map none) (.map none) 0 r107 hr108) (.cons .k0 (.cons .k0 (.cons .k0 (.cons .k0 (.cons .k0 (.cons .k0 (.cons .k0 (.cons .k0 (.cons .k0 (.cons .k0 (.cons .k0 (.cons .k0 .nil)))))))))))) .nil (fun _ _ => rfl) (fun _ _ => rfl) rfl) rfl fun _ _ => .gyes rfl .g1 <| .opp (P.bin .t0 .k (pk_three (.nil_neq (e := 147) (by kernel_rfl)) (.nil_neq (e := 147) (by kernel_rfl)) (.nil_neq (e := 147) (by kernel_rfl)))) rfl <| .opp (P.pickF .t1 .t0) rfl <| .opp (P.mov .t0) rfl <| .split .k0 (fun c109 => ?_) (fun c109 => ?_)
                · rw [if_pos c109] at hj86
                  refine .gno rfl .g0 rfl rfl <| .gno rfl .g0 rfl rfl <| .gno rfl .g0 rfl rfl <| .gno rfl .g0 rfl rfl <| .gno rfl .g0 rfl rfl <| .gno rfl .g0 rfl rfl <| .opp (P.pickT .t0 .k) rfl <| .opp (P.mov .t0) rfl <| .gno rfl .g0 rfl rfl <| .gno rfl .g0 rfl rfl <| .gno rfl .g0 rfl rfl <| .gno rfl .g0 rfl rfl ?_
                  refine .gno rfl .g0 rfl rfl <| .opp (P.pickT .t0 .k) rfl <| .opp (P.mov .t0) rfl <| .gno rfl .g0 rfl rfl <| .gno rfl .g0 rfl rfl <| .gno rfl .g0 rfl rfl <| .gno rfl .g0 rfl rfl <| .gno rfl .g0 rfl rfl <| .opp (P.pickT .t0 .k) rfl <| .opp (P.mov .t0) rfl <| .gno rfl .g0 rfl rfl <| .gno rfl .g0 rfl rfl ?_
                  refine .gno rfl .g0 rfl rfl <| .gno rfl .g0 rfl rfl <| .gno rfl .g0 rfl rfl <| .opp (P.pickT .t0 .k) rfl <| .opp (P.mov .t0) rfl <| .gno rfl .g0 rfl rfl <| .gno rfl .g0 rfl rfl <| .gno rfl .g0 rfl rfl <| .gno rfl .g0 rfl rfl <| .gno rfl .g0 rfl rfl <| .gno rfl .g0 rfl rfl <| .gno rfl .g0 rfl rfl ?_
                  refine .opp (P.pickT .t0 .k) rfl <| .nil ?_
                  cases hj86
                  exact .stj () (.cons Mm.m0 (.cons Mm.m1 (.cons Mm.m2 (.cons Mm.m3 (.cons Mm.m4 .nil))))) (.of (.cons .k12 (.cons .k0 (.cons .k11 (.cons .k7 .nil))))) (.cons Mm.m2 .nil)
                · rw [if_neg (ne_true_of_eq_false c109)] at hj86
                  refine .gyes rfl .g0 <| .opp (P.mov .g2) rfl <| .gyes rfl .g1 <| .opp (P.mov .g2) rfl <| .gyes rfl .g2 <| .ixql .k13 (show [[nilp], [(pt b5 0)]][1]? = some [(pt b5 0)] from rfl) fun p110 q111 hq112 => .opp (P.ixi (i := 1) .t0 rfl .t0 hq112 runUnderlying84 sizeOf26) rfl <| .gyes rfl .g1 <| .op (V.ldxl0 (u := (pt b5 0)) .t0 hq112 .k13 (show [[nilp], [(pt b5 0)]][1]? = some [(pt b5 0)] from rfl) (.one isAgg26 rfl)) rfl <| .gyes rfl .g1 ?_
                  obtain ⟨r113, hr114, hj86⟩ := bnd_eq hj86
                  refine .opg (G.call call20 (.cons .t0 (.cons .k .nil)) (S_world_World_Router b5 (⟨r81.setup, ⟨none, none⟩, ⟨none, none⟩, ⟨none, none⟩, none, r81.mail, r81.now, r81.seen, r81.late, r81.since, none, none, none, r81.asked, r81.forged, r81.clash⟩ : world_World) nilp nilp nilp nilp nilp nilp nilp u83 (.map none) (.map none) (.map none) 2 r113 hr114) (.cons .k0 (.cons .k0 (.cons .k0 (.cons .k0 (.cons .k0 (.cons .k0 (.cons .k0 (.cons .k0 (.cons .k0 (.cons .k0 (.cons .k0 (.cons .k0 .nil)))))))))))) .nil (fun _ _ => rfl) (fun _ _ => rfl) rfl) rfl fun _ _ => .gyes rfl .g1 <| .opp (P.bin .t0 .k (pk_three (.nil_neq (e := 135) (by kernel_rfl)) (.nil_neq (e := 135) (by kernel_rfl)) (.nil_neq (e := 135) (by kernel_rfl)))) rfl <| .opp (P.pickF .t1 .t0) rfl <| .opp (P.mov .t0) rfl <| .split .k0 (fun c115 => ?_) (fun c115 => ?_)
                  · rw [if_pos c115] at hj86
                    refine .gno rfl .g0 rfl rfl <| .gno rfl .g0 rfl rfl <| .gno rfl .g0 rfl rfl <| .gno rfl .g0 rfl rfl <| .gno rfl .g0 rfl rfl <| .opp (P.pickT .t0 .k) rfl <| .opp (P.mov .t0) rfl <| .gno rfl .g0 rfl rfl <| .gno rfl .g0 rfl rfl <| .gno rfl .g0 rfl rfl <| .gno rfl .g0 rfl rfl <| .gno rfl .g0 rfl rfl ?_
                    refine .opp (P.pickT .t0 .k) rfl <| .opp (P.mov .t0) rfl <| .gno rfl .g0 rfl rfl <| .gno rfl .g0 rfl rfl <| .gno rfl .g0 rfl rfl <| .gno rfl .g0 rfl rfl <| .gno rfl .g0 rfl rfl <| .opp (P.pickT .t0 .k) rfl <| .opp (P.mov .t0) rfl <| .gno rfl .g0 rfl rfl <| .gno rfl .g0 rfl rfl <| .gno rfl .g0 rfl rfl ?_
                    refine .gno rfl .g0 rfl rfl <| .gno rfl .g0 rfl rfl <| .gno rfl .g0 rfl rfl <| .gno rfl .g0 rfl rfl <| .opp (P.pickT .t0 .k) rfl <| .nil ?_
                    cases hj86
                    exact .stj () (.cons Mm.m0 (.cons Mm.m1 (.cons Mm.m2 (.cons Mm.m3 (.cons Mm.m4 .nil))))) (.of (.cons .k12 (.cons .k0 (.cons .k11 (.cons .k7 .nil))))) (.cons Mm.m2 .nil)
                  · rw [if_neg (ne_true_of_eq_false c115)] at hj86
                    refine .gyes rfl .g0 <| .opp (P.mov .g2) rfl <| .gyes rfl .g1 <| .opp (P.mov .g2) rfl <| .gyes rfl .g2 <| .ixql .k13 (show [[nilp], [(pt b5 0)]][1]? = some [(pt b5 0)] from rfl) fun p116 q117 hq118 => .opp (P.ixi (i := 1) .t0 rfl .t0 hq118 runUnderlying84 sizeOf26) rfl <| .gyes rfl .g1 <| .op (V.ldxl0 (u := (pt b5 0)) .t0 hq118 .k13 (show [[nilp], [(pt b5 0)]][1]? = some [(pt b5 0)] from rfl) (.one isAgg26 rfl)) rfl <| .gyes rfl .g1 ?_
                    obtain ⟨r119, hr120, hj86⟩ := bnd_eq hj86
                    refine .opg (G.call call13 (.cons .t0 (.cons .k .nil)) (S_world_World_Late b5 (⟨r81.setup, ⟨none, none⟩, ⟨none, none⟩, ⟨none, none⟩, none, r81.mail, r81.now, r81.seen, r81.late, r81.since, none, none, none, r81.asked, r81.forged, r81.clash⟩ : world_World) nilp nilp nilp nilp nilp nilp nilp u83 (.map none) (.map none) (.map none) 0 r119 hr120) (.cons .k0 (.cons .k0 (.cons .k0 (.cons .k0 (.cons .k0 (.cons .k0 (.cons .k0 (.cons .k0 (.cons .k0 (.cons .k0 (.cons .k0 (.cons .k0 .nil)))))))))))) .nil (fun _ _ => rfl) (fun _ _ => rfl) rfl) rfl fun _ _ => .opp (P.pickF .t1 .t0) rfl <| .opp (P.mov .t0) rfl <| .split .k0 (fun c121 => ?_) (fun c121 => ?_)
                    · rw [if_pos c121] at hj86
                      refine .gno rfl .g0 rfl rfl <| .gno rfl .g0 rfl rfl <| .gno rfl .g0 rfl rfl <| .gno rfl .g0 rfl rfl <| .gno rfl .g0 rfl rfl <| .opp (P.pickT .t0 .k) rfl <| .opp (P.mov .t0) rfl <| .gno rfl .g0 rfl rfl <| .gno rfl .g0 rfl rfl <| .gno rfl .g0 rfl rfl <| .gno rfl .g0 rfl rfl <| .gno rfl .g0 rfl rfl ?_
                      refine .opp (P.pickT .t0 .k) rfl <| .opp (P.mov .t0) rfl <| .gno rfl .g0 rfl rfl <| .gno rfl .g0 rfl rfl <| .gno rfl .g0 rfl rfl <| .gno rfl .g0 rfl rfl <| .gno rfl .g0 rfl rfl <| .gno rfl .g0 rfl rfl <| .gno rfl .g0 rfl rfl <| .opp (P.pickT .t0 .k) rfl <| .nil ?_
                      cases hj86
                      exact .stj () (.cons Mm.m0 (.cons Mm.m1 (.cons Mm.m2 (.cons Mm.m3 (.cons Mm.m4 .nil))))) (.of (.cons .k12 (.cons .k0 (.cons .k11 (.cons .k7 .nil))))) (.cons Mm.m2 .nil)
                    · rw [if_neg (ne_true_of_eq_false c121)] at hj86
                      refine .gyes rfl .g0 <| .opp (P.mov .g2) rfl <| .gyes rfl .g1 <| .opp (P.mov .g2) rfl <| .gyes rfl .g2 <| .ixql .k13 (show [[nilp], [(pt b5 0)]][1]? = some [(pt b5 0)] from rfl) fun p122 q123 hq124 => .opp (P.ixi (i := 1) .t0 rfl .t0 hq124 runUnderlying84 sizeOf26) rfl <| .gyes rfl .g1 <| .op (V.ldxl0 (u := (pt b5 0)) .t0 hq124 .k13 (show [[nilp], [(pt b5 0)]][1]? = some [(pt b5 0)] from rfl) (.one isAgg26 rfl)) rfl <| .gyes rfl .g1 <| .opg (G.call call16 (.cons .t0 .nil) (S_world_World_Forged b5 (⟨r81.setup, ⟨none, none⟩, ⟨none, none⟩, ⟨none, none⟩, none, r81.mail, r81.now, r81.seen, r81.late, r81.since, none, none, none, r81.asked, r81.forged, r81.clash⟩ : world_World) nilp nilp nilp nilp nilp nilp nilp u83 (.map none) (.map none) (.map none) _ rfl) (.cons .k0 (.cons .k0 (.cons .k0 (.cons .k0 (.cons .k0 (.cons .k0 (.cons .k0 (.cons .k0 (.cons .k0 (.cons .k0 (.cons .k0 (.cons .k0 .nil)))))))))))) .nil (fun _ _ => rfl) (fun _ _ => rfl) rfl) rfl fun _ _ => .opp (P.pickF .t1 .t0) rfl ?_
                      refine .opp (P.mov .t0) rfl <| .split .k0 (fun c125 => ?_) (fun c125 => ?_)
                      · rw [if_pos c125] at hj86
                        refine .gno rfl .g0 rfl rfl <| .gno rfl .g0 rfl rfl <| .gno rfl .g0 rfl rfl <| .gno rfl .g0 rfl rfl <| .gno rfl .g0 rfl rfl <| .opp (P.pickT .t0 .k) rfl <| .opp (P.mov .t0) rfl <| .gno rfl .g0 rfl rfl <| .gno rfl .g0 rfl rfl <| .gno rfl .g0 rfl rfl <| .gno rfl .g0 rfl rfl <| .gno rfl .g0 rfl rfl ?_
                        refine .gno rfl .g0 rfl rfl <| .gno rfl .g0 rfl rfl <| .opp (P.pickT .t0 .k) rfl <| .nil ?_
                        cases hj86
                        exact .stj () (.cons Mm.m0 (.cons Mm.m1 (.cons Mm.m2 (.cons Mm.m3 (.cons Mm.m4 .nil))))) (.of (.cons .k12 (.cons .k0 (.cons .k11 (.cons .k7 .nil))))) (.cons Mm.m2 .nil)
                      · rw [if_neg (ne_true_of_eq_false c125)] at hj86
                        refine .gyes rfl .g0 <| .opp (P.mov .g2) rfl <| .gyes rfl .g1 <| .opp (P.mov .g2) rfl <| .gyes rfl .g2 <| .ixql .k13 (show [[nilp], [(pt b5 0)]][1]? = some [(pt b5 0)] from rfl) fun p126 q127 hq128 => .opp (P.ixi (i := 1) .t0 rfl .t0 hq128 runUnderlying84 sizeOf26) rfl <| .gyes rfl .g1 <| .op (V.ldxl0 (u := (pt b5 0)) .t0 hq128 .k13 (show [[nilp], [(pt b5 0)]][1]? = some [(pt b5 0)] from rfl) (.one isAgg26 rfl)) rfl <| .gyes rfl .g1 <| .opg (G.call call17 (.cons .t0 .nil) (S_world_World_Clash b5 (⟨r81.setup, ⟨none, none⟩, ⟨none, none⟩, ⟨none, none⟩, none, r81.mail, r81.now, r81.seen, r81.late, r81.since, none, none, none, r81.asked, r81.forged, r81.clash⟩ : world_World) nilp nilp nilp nilp nilp nilp nilp u83 (.map none) (.map none) (.map none) _ rfl) (.cons .k0 (.cons .k0 (.cons .k0 (.cons .k0 (.cons .k0 (.cons .k0 (.cons .k0 (.cons .k0 (.cons .k0 (.cons .k0 (.cons .k0 (.cons .k0 .nil)))))))))))) .nil (fun _ _ => rfl) (fun _ _ => rfl) rfl) rfl fun _ _ => .opp (P.pickF .t1 .t0) rfl ?_
                        refine .opp (P.mov .t0) rfl <| .split .k0 (fun c129 => ?_) (fun c129 => ?_)
                        · rw [if_pos c129] at hj86
                          refine .gno rfl .g0 rfl rfl <| .gno rfl .g0 rfl rfl <| .gno rfl .g0 rfl rfl <| .gno rfl .g0 rfl rfl <| .gno rfl .g0 rfl rfl <| .gno rfl .g0 rfl rfl <| .gno rfl .g0 rfl rfl <| .opp (P.pickT .t0 .k) rfl <| .nil ?_
                          cases hj86
                          exact .stj () (.cons Mm.m0 (.cons Mm.m1 (.cons Mm.m2 (.cons Mm.m3 (.cons Mm.m4 .nil))))) (.of (.cons .k12 (.cons .k0 (.cons .k11 (.cons .k7 .nil))))) (.cons Mm.m2 .nil)
                        · rw [if_neg (ne_true_of_eq_false c129)] at hj86
                          refine .gyes rfl .g0 <| .opp (P.mov .g2) rfl <| .gyes rfl .g1 <| .opp (P.mov .g2) rfl <| .gyes rfl .g2 <| .ixql .k13 (show [[nilp], [(pt b5 0)]][1]? = some [(pt b5 0)] from rfl) fun p130 q131 hq132 => .opp (P.ixi (i := 1) .t0 rfl .t0 hq132 runUnderlying84 sizeOf26) rfl <| .gyes rfl .g1 <| .op (V.ldxl0 (u := (pt b5 0)) .t0 hq132 .k13 (show [[nilp], [(pt b5 0)]][1]? = some [(pt b5 0)] from rfl) (.one isAgg26 rfl)) rfl <| .gyes rfl .g1 <| .opg (G.call call21 (.cons .t0 .nil) (S_world_World_Setup b5 (⟨r81.setup, ⟨none, none⟩, ⟨none, none⟩, ⟨none, none⟩, none, r81.mail, r81.now, r81.seen, r81.late, r81.since, none, none, none, r81.asked, r81.forged, r81.clash⟩ : world_World) nilp nilp nilp nilp nilp nilp nilp u83 (.map none) (.map none) (.map none) _ rfl) (.cons .k0 (.cons .k0 (.cons .k0 (.cons .k0 (.cons .k0 (.cons .k0 (.cons .k0 (.cons .k0 (.cons .k0 (.cons .k0 (.cons .k0 (.cons .k0 .nil)))))))))))) .nil (fun _ _ => rfl) (fun _ _ => rfl) rfl) rfl fun _ _ => .gyes rfl .g1 ?_
                          refine .opp (P.bld (v := Ag (world_Setup.cs ⟨0, 0, 0, 0⟩)) .nil (bld_run zeroValue23 runUnderlying23 pl_23 (by kernel_rfl))) rfl <| .gyes rfl .g2 <| .opp (P.bin .t1 .t0 (eq_23_neq _ _)) rfl <| .opp (P.pickF .t1 .t0) rfl <| .nil ?_
                          cases hj86
                          exact .stj () (.cons Mm.m0 (.cons Mm.m1 (.cons Mm.m2 (.cons Mm.m3 (.cons Mm.m4 .nil))))) (.of (.cons .k12 (.cons .k0 (.cons .k11 (.cons .k7 .nil))))) (.cons Mm.m2 .nil)
        · clear hj86
          refine .cond .t0 (fun c133 => ?_) (fun c133 => ?_)
          · rw [if_pos c133] at h
            refine .seq <| .reg rfl <| .opp (P.asg .k) rfl <| .nil <| .then <| .ret <| .inr <| .thr <| .thr <| .inr <| .thr ?_
            cases h
            exact .finw () (.r1 rfl (.tmp .g0)) trivial (Ls.of .nil) .nil
          · rw [if_neg (ne_true_of_eq_false c133)] at h
            refine .skip <| .inn <| .then <| .reg rfl <| .opp (P.mov .g0) rfl <| .opp (P.bin (v := N 2) .t0 .k (.addc (by decide))) rfl <| .drop .k1 <| .opp (P.asg .t0) rfl <| .nil <| .then <| .rd <| .seq ?_
            refine .seq <| .reg rfl <| .opp (P.mov .g0) rfl <| .opp (P.mov .g2) rfl <| .op (V.lnl (n := 2) .t0 .k2 rfl runUnderlying84) rfl <| .opp (P.bin (v := Bo false) .t1 .t0 (BinV.lss.boolc (by decide))) rfl <| .nil <| .then <| .condF .t0 <| .exit <| .thx <| .thx ?_
            refine .inb <| .then ?_
            obtain ⟨y134, hj136, h⟩ := thn_eq h
            refine .cutx (γ := Unit) (E1 := fun z135 => [(1, N y134), (2, pt b1 0)]) (L1 := fun z135 => [blk b1 70 (api_Step.cs a0 z00a)]) (R1 := fun z135 => [rows 1 z00a (a0.Data.map (fun x => [B8 x]))]) ?_ (fun z135 => ?_)
            · clear h
              obtain ⟨y137, hj139, hj136⟩ := thn_eq hj136
              refine .cutx (γ := Unit) (E1 := fun z138 => [(102, Bo y137), (2, pt b1 0), (1, N a1)]) (L1 := fun z138 => [blk b1 70 (api_Step.cs a0 z00a), blk b5 83 (world_World.cs ⟨r81.setup, ⟨none, none⟩, ⟨none, none⟩, ⟨none, none⟩, none, r81.mail, r81.now, r81.seen, r81.late, r81.since, none, none, none, r81.asked, r81.forged, r81.clash⟩ nilp nilp nilp nilp nilp nilp nilp u83 (.map none) (.map none) (.map none)), mb (fun (x : world_place) => Ag x.cs) (fun (x : Int) => N x) u83 r81.since]) (R1 := fun z138 => [rows 1 z00a (a0.Data.map (fun x => [B8 x]))]) ?_ (fun z138 => ?_)
              · clear hj136
                refine .reg rfl <| .opp (P.mov .g3) rfl <| .opp (P.bin .t0 .k .geq) rfl <| .opp (P.mov .t0) rfl <| .split .k0 (fun c140 => ?_) (fun c140 => ?_)
                · rw [if_pos c140] at hj139
                  refine .gyes rfl .g0 <| .opp (P.mov .g4) rfl <| .gyes rfl .g1 <| .opp (P.bin .t0 .k .leq) rfl <| .opp (P.pickT .t1 .t0) rfl <| .nil ?_
                  subst hj139
                  exact .stj () (.cons Mm.m0 (.cons Mm.m3 (.cons Mm.m4 .nil))) (.of (.cons .k0 (.cons .k0 (.cons .k1 .nil)))) (.cons Mm.m0 .nil)
                · rw [if_neg (ne_true_of_eq_false c140)] at hj139
                  refine .gno rfl .g0 rfl rfl <| .gno rfl .g0 rfl rfl <| .opp (P.pickF .t0 .k) rfl <| .nil ?_
                  subst hj139
                  exact .stj () (.cons Mm.m0 (.cons Mm.m3 (.cons Mm.m4 .nil))) (.of (.cons .k0 (.cons .k0 (.cons .k1 .nil)))) (.cons Mm.m0 .nil)
              · clear hj139
                refine .cond .t0 (fun c141 => ?_) (fun c141 => ?_)
                · rw [if_pos c141] at hj136
                  refine .reg rfl <| .drop .k1 <| .opp (P.asg .k) rfl <| .nil ?_
                  subst hj136
                  exact .stj () (.cons Mm.m0 (.cons Mm.m1 .nil)) (.of (.cons .k0 .nil)) (.cons Mm.m0 .nil)
                · rw [if_neg (ne_true_of_eq_false c141)] at hj136
                  refine .skip ?_
                  subst hj136
                  exact .stj () (.cons Mm.m1 (.cons Mm.m0 .nil)) (.of (.cons .k0 .nil)) (.cons Mm.m0 .nil)
            · clear hj136
              refine .seq <| .reg rfl <| .opp (P.bld (v := Ag (world_Setup.cs ⟨1, 0, 31, 0⟩)) (.cons .k (.cons .k .nil)) (bld_run zeroValue23 runUnderlying23 pl_23 (by kernel_rfl))) rfl ?_
              obtain ⟨r142, hr143, h⟩ := bnd_eq h
              refine .opg (G.call call18 (.cons .t0 .nil) (S_world_New (⟨1, 0, 31, 0⟩ : world_Setup) r142 hr143) .nil .nil (fun _ _ => rfl) (fun _ _ => rfl) rfl) rfl fun u144 _ => .opp (P.mov .t0) rfl <| .opp (P.ext (v := u144) .g0 rfl) rfl <| .opp (P.ext (v := N r142.2) .t1 rfl) rfl <| .opp (P.asg .t1) rfl <| .opp (P.asg .t1) rfl <| .nil <| .then <| .seq <| .reg rfl <| .opp (P.mov .g1) rfl <| .opp (P.mov .t3) rfl ?_
              refine .opp (P.fa .g4 fa_70_1 rfl) rfl <| .op (V.ld (v := N a0.A) .t0 .k1 (.one isAgg3 rfl)) rfl <| .opp (P.fa .g5 fa_70_2 rfl) rfl <| .op (V.ld (v := N a0.B) .t0 .k1 (.one isAgg3 rfl)) rfl <| .opp (P.fa .g6 fa_70_3 rfl) rfl <| .op (V.ld (v := N a0.C) .t0 .k1 (.one isAgg3 rfl)) rfl <| .opp (P.fa .t7 fa_70_4 rfl) rfl <| .op (V.ld (v := z00a) .t0 .k1 (.one isAgg68 rfl)) rfl <| .celr Mm.m0 fun hv145 => .opp (P.bld (v := Ag (api_Step.cs ⟨y134, a0.A, a0.B, a0.C, []⟩ z00a)) (.cons .t4 (.cons .t3 (.cons .t2 (.cons .t1 (.cons .t0 .nil))))) (bld_run zeroValue70 runUnderlying70 pl_70 (by obtain ⟨_, _, _, rfl⟩ := hv145; kernel_rfl))) rfl ?_
              obtain ⟨r146, hr147, h⟩ := bnd_eq h
              refine .opg (G.call call25 (.cons .t1 (.cons .t0 .nil)) (S_world_World_Step_bx u144 r142.1 (⟨y134, a0.A, a0.B, a0.C, a0.Data⟩ : api_Step) z00a r146 hr147) (.cons .k0 .nil) (.cons Mm.m0 .nil) (fun _ _ => rfl) (fun _ _ => rfl) rfl) rfl fun _ _ => .drop .k0 <| .nil <| .then ?_
              obtain ⟨y148, hj150, h⟩ := bnd_eq h
              refine .cutx (γ := Unit) (E1 := fun z149 => [(4, Bo y148)]) (L1 := fun z149 => []) (R1 := fun z149 => [rows 1 z00a (a0.Data.map (fun x => [B8 x]))]) ?_ (fun z149 => ?_)
              · clear h
                refine .reg rfl <| .opp (P.mov .t0) rfl <| .opp (P.bin .t0 .k .eql) rfl <| .opp (P.mov .t0) rfl <| .split .k0 (fun c151 => ?_) (fun c151 => ?_)
                · rw [if_pos c151] at hj150
                  refine .gyes rfl .g0 <| .opp (P.mov .g1) rfl <| .gyes rfl .g1 ?_
                  obtain ⟨r152, hr153, hj150⟩ := bnd_eq hj150
                  refine .opg (G.call call15 (.cons .t0 .nil) (S_world_World_Now_bx u144 r146 r152 hr153) (.cons .k0 .nil) .nil (fun _ _ => rfl) (fun _ _ => rfl) rfl) rfl fun _ _ => .gyes rfl .g1 <| .opp (P.bin .t0 .k .eql) rfl <| .opp (P.pickT .t1 .t0) rfl <| .opp (P.mov .t0) rfl <| .split .k0 (fun c154 => ?_) (fun c154 => ?_)
                  · rw [if_pos c154] at hj150
                    refine .gyes rfl .g0 <| .opp (P.mov .g1) rfl <| .gyes rfl .g1 ?_
                    obtain ⟨r155, hr156, hj150⟩ := bnd_eq hj150
                    refine .opg (G.call call14 (.cons .t0 .nil) (S_world_World_Mail_bx u144 r146 r155 hr156) (.cons .k0 .nil) .nil (fun _ _ => rfl) (fun _ _ => rfl) rfl) rfl fun ⟨u157, w158⟩ _ => .gyes rfl .g1 <| .gzl Mm.m1 fun hz159 => .op (V.lnr (n := r155.length) .t0 Mm.m0 (zip_len hz159) runUnderlying46) rfl <| .gyes rfl .g1 <| .opp (P.bin .t0 .k .eql) rfl <| .opp (P.pickT .t1 .t0) rfl <| .opp (P.mov .t0) rfl <| .split .k0 (fun c160 => ?_) (fun c160 => ?_)
                    · rw [if_pos c160] at hj150
                      refine .gyes rfl .g0 <| .opp (P.mov .t1) rfl <| .gyes rfl .g1 ?_
                      obtain ⟨y162, hy163, hj150⟩ := bnd_eq hj150
                      refine .bxo .k0 hy163 (fun _ _ _ => rfl) fun ⟨b164, u165, u166, u167, u168, u169, u170, u171, u172, u173, u174, u175⟩ hz161 => ?_
                      replace hz161 : u144 = pt b164 0 := hz161
                      subst hz161
                      refine .opg (G.call call11 (.cons .t0 (.cons .k .nil)) (S_world_World_Side_k0 b164 y162 u165 u166 u167 u168 u169 u170 u171 u172 u173 u174 u175 _ rfl) (.cons .k0 (.cons .k0 (.cons .k0 (.cons .k0 (.cons .k0 (.cons .k0 (.cons .k0 (.cons .k0 (.cons .k0 (.cons .k0 (.cons .k0 (.cons .k0 .nil)))))))))))) .nil (fun _ _ => rfl) (fun _ _ => rfl) rfl) rfl fun _ _ => ?_
                      obtain ⟨hb177, hj150⟩ := grd_eq hj150
                      refine .pkV (u := u165) .k0 (by unfold pk; rw [if_neg hb177]; rfl) <| .gyes rfl .g1 ?_
                      obtain ⟨r178, hr179, hj150⟩ := bnd_eq hj150
                      refine .opg (G.call call26 (.cons .t0 .nil) (S_chain_Chain_Pool_bx u165 y162.sides.a0 r178 hr179) (.cons .k1 .nil) .nil (fun _ _ => rfl) (fun _ _ => rfl) rfl) rfl fun u180 _ => .gyes rfl .g1 <| .op (V.lnl (n := r178.length) .t0 .k1 map_len runUnderlying86) rfl <| .gyes rfl .g1 <| .opp (P.bin .t0 .k .eql) rfl <| .opp (P.pickT .t1 .t0) rfl <| .opp (P.asg .t0) rfl <| .nil ?_
                      cases hj150
                      exact .bxc world_World.bd world_World.fp (b164, u165, u166, u167, u168, u169, u170, u171, u172, u173, u174, u175) y162 (z := (pt b164 0)) rfl (.cons .k2 (.cons .k0 (.cons .k1 (.cons .k1 (.cons .k1 (.cons .k1 (.cons .k1 (.cons .k1 (.cons .k1 (.cons .k1 (.cons .k1 (.cons .k1 .nil)))))))))))) <| .conseq .k0 (q := bx world_World.bd world_World.fp (pt b164 0) r146) (fun _ h_ => by rw [hy163]; exact h_) <| .stj () (.cons Mm.m0 .nil) (.of .nil) (.cons Mm.m2 .nil)
                    · rw [if_neg (ne_true_of_eq_false c160)] at hj150
                      refine .gno rfl .g0 rfl rfl <| .gno rfl .g0 rfl rfl <| .gno rfl .g0 rfl rfl <| .gno rfl .g0 rfl rfl <| .gno rfl .g0 rfl rfl <| .opp (P.pickF .t0 .k) rfl <| .opp (P.asg .t0) rfl <| .nil ?_
                      cases hj150
                      exact .stj () (.cons Mm.m0 .nil) (.of .nil) (.cons Mm.m2 .nil)
                  · rw [if_neg (ne_true_of_eq_false c154)] at hj150
                    refine .gno rfl .g0 rfl rfl <| .gno rfl .g0 rfl rfl <| .gno rfl .g0 rfl rfl <| .gno rfl .g0 rfl rfl <| .opp (P.pickF .t0 .k) rfl <| .opp (P.mov .t0) rfl <| .gno rfl .g0 rfl rfl <| .gno rfl .g0 rfl rfl <| .gno rfl .g0 rfl rfl <| .gno rfl .g0 rfl rfl <| .gno rfl .g0 rfl rfl <| .opp (P.pickF .t0 .k) rfl ?_
                    refine .opp (P.asg .t0) rfl <| .nil ?_
                    cases hj150
                    exact .stj () (.cons Mm.m0 .nil) (.of .nil) (.cons Mm.m0 .nil)
                · rw [if_neg (ne_true_of_eq_false c151)] at hj150
                  refine .gno rfl .g0 rfl rfl <| .gno rfl .g0 rfl rfl <| .gno rfl .g0 rfl rfl <| .opp (P.pickF .t0 .k) rfl <| .opp (P.mov .t0) rfl <| .gno rfl .g0 rfl rfl <| .gno rfl .g0 rfl rfl <| .gno rfl .g0 rfl rfl <| .gno rfl .g0 rfl rfl <| .opp (P.pickF .t0 .k) rfl <| .opp (P.mov .t0) rfl <| .gno rfl .g0 rfl rfl ?_
                  refine .gno rfl .g0 rfl rfl <| .gno rfl .g0 rfl rfl <| .gno rfl .g0 rfl rfl <| .gno rfl .g0 rfl rfl <| .opp (P.pickF .t0 .k) rfl <| .opp (P.asg .t0) rfl <| .nil ?_
                  cases hj150
                  exact .stj () (.cons Mm.m0 .nil) (.of .nil) (.cons Mm.m0 .nil)
              · clear hj150
                refine .ret ?_
                cases h
                exact .finw () (.r1 rfl (.tmp .g0)) trivial (Ls.of .nil) .nil
attribute [irreducible] narrowslaw24_WorldNobody
end Go.Sl
