/- Walked code of the program, its pure functions and their contracts. -/
import Derived.Test.YtjlalcoommhfoaaGreatSlDvf
set_option linter.unusedVariables false
set_option linter.unusedSimpArgs false
namespace Go.Sl
open Go.Proofs Go.Proofs.Tryz

noncomputable def slices_ContainsFunc_judge_Verdict_judge_Well_1 (a0 : List judge_Verdict) : Option (Bool) :=
  Option.bind (slices_IndexFunc_judge_Verdict_judge_Well_1 a0) fun r1 => some (decide (r1 ≥ 0))
set_option maxRecDepth 20000 in
set_option maxHeartbeats 8000000 in
theorem S_slices_ContainsFunc_judge_Verdict_judge_Well_1 (v00 : Value) (a0 : List judge_Verdict) (r : Bool) (h : slices_ContainsFunc_judge_Verdict_judge_Well_1 a0 = some r) :
    SpecF Tryz.prog 119 [v00, fnv 120 []] [] [rows 4 v00 (a0.map judge_Verdict.cs)] (fun z : Unit => True) (fun z => Bo r) (fun z M =>  M) (fun z M =>  M) := by
  refine .of func119 rfl ntmps119 rfl fun w0 D0 G0 => ?_
  unfold slices_ContainsFunc_judge_Verdict_judge_Well_1 at h
  refine .seq <| .reg rfl <| .op0 (OpP.toV (P.asg .k)) rfl <| .nil <| .then <| .seq <| .reg rfl <| .opp (P.mov .t0) rfl <| .opp (P.mov .t1) rfl ?_
  obtain ⟨r1, hr2, h⟩ := bnd_eq h
  refine .opg (G.call call188 (.cons .t1 (.cons .t0 .nil)) (S_slices_IndexFunc_judge_Verdict_judge_Well_1 v00 a0 r1 hr2) .nil (.cons Mm.m0 .nil) (fun _ _ => rfl) (fun _ _ => rfl) rfl) rfl fun _ _ => .opp (P.bin .t0 .k .geq) rfl <| .opp (P.asg .t0) rfl <| .nil <| .then <| .ret ?_
  cases h
  exact .finw () (.r1 rfl (.tmp .g0)) trivial (Ls.of .nil) .nil
attribute [irreducible] slices_ContainsFunc_judge_Verdict_judge_Well_1
noncomputable def judge_Well (a0 : List judge_Verdict) : Option (Bool) :=
  Option.bind (slices_ContainsFunc_judge_Verdict_judge_Well_1 a0) fun r1 => some (!r1)
set_option maxRecDepth 20000 in
set_option maxHeartbeats 8000000 in
theorem S_judge_Well (v00 : Value) (a0 : List judge_Verdict) (r : Bool) (h : judge_Well a0 = some r) :
    SpecF Tryz.prog 66 [v00] [] [rows 4 v00 (a0.map judge_Verdict.cs)] (fun z : Unit => True) (fun z => Bo r) (fun z M =>  M) (fun z M =>  M) := by
  refine .of func66 rfl ntmps66 rfl fun w0 D0 G0 => ?_
  unfold judge_Well at h
  refine .seq <| .reg rfl <| .op0 (OpP.toV (P.asg .k)) rfl <| .nil <| .then <| .seq <| .reg rfl <| .opp (P.mov .t0) rfl ?_
  obtain ⟨r1, hr2, h⟩ := bnd_eq h
  refine .opg (G.call call119 (.cons .t0 (.cons .f .nil)) (S_slices_ContainsFunc_judge_Verdict_judge_Well_1 v00 a0 r1 hr2) .nil (.cons Mm.m0 .nil) (fun _ _ => rfl) (fun _ _ => rfl) rfl) rfl fun _ _ => .opp (P.not .t0) rfl <| .opp (P.asg .t0) rfl <| .nil <| .then <| .ret ?_
  cases h
  exact .finw () (.r1 rfl (.tmp .g0)) trivial (Ls.of .nil) .nil
attribute [irreducible] judge_Well
noncomputable def world_World_router (a0 : world_World) (a1 : Int) : Option (Nat) :=
  thn (if (decide (a1 < 2)) = true then true else (decide (a1 ≥ 4))) fun (y1 : Bool) => if y1 = true then (some 0) else (if (decide (IntKind.i64.wrap (a1 - 2) = 0)) = true then (some 1) else (if (decide (IntKind.i64.wrap (a1 - 2) = 1)) = true then (some 2) else none))
set_option maxRecDepth 20000 in
set_option maxHeartbeats 8000000 in
theorem S_world_World_router (b00 : Nat) (a0 : world_World) (z00a z00b z00c z00d z00e z00f z00g z00h z00i z00j z00k : Value) (a1 : Int) (r : Nat) (h : world_World_router a0 a1 = some r) :
    SpecF Tryz.prog 81 [pt b00 0, N a1] [blk b00 58 (world_World.cs a0 z00a z00b z00c z00d z00e z00f z00g z00h z00i z00j z00k), bx chain_Chain.bd chain_Chain.fp z00a a0.sides.a0, bx chain_Chain.bd chain_Chain.fp z00b a0.sides.a1, bx client_Client.bd client_Client.fp z00c a0.clients.a0, bx client_Client.bd client_Client.fp z00d a0.clients.a1, bx router_Router.bd router_Router.fp z00e a0.routers.a0, bx router_Router.bd router_Router.fp z00f a0.routers.a1, bx relay_Relay.bd relay_Relay.fp z00g a0.relay, mb (fun (x : world_place) => Ag x.cs) (fun (x : Int) => N x) z00h a0.since, mb (fun (x : world_word) => Ag x.cs) (fun (x : Bool) => Bo x) z00i a0.told, mb (fun (x : ByteArray) => Value.string x) (fun (x : api_Inv) => Ag x.cs) z00j a0.keys, mb (fun (x : ByteArray) => Value.string x) (fun (x : world_data) => Ag x.cs) z00k a0.digests] [] (fun z : Unit => True) (fun z => pk r 0 [nilp, z00e, z00f]) (fun z M => blk b00 58 (world_World.cs a0 z00a z00b z00c z00d z00e z00f z00g z00h z00i z00j z00k) :: bx chain_Chain.bd chain_Chain.fp z00a a0.sides.a0 :: bx chain_Chain.bd chain_Chain.fp z00b a0.sides.a1 :: bx client_Client.bd client_Client.fp z00c a0.clients.a0 :: bx client_Client.bd client_Client.fp z00d a0.clients.a1 :: bx router_Router.bd router_Router.fp z00e a0.routers.a0 :: bx router_Router.bd router_Router.fp z00f a0.routers.a1 :: bx relay_Relay.bd relay_Relay.fp z00g a0.relay :: mb (fun (x : world_place) => Ag x.cs) (fun (x : Int) => N x) z00h a0.since :: mb (fun (x : world_word) => Ag x.cs) (fun (x : Bool) => Bo x) z00i a0.told :: mb (fun (x : ByteArray) => Value.string x) (fun (x : api_Inv) => Ag x.cs) z00j a0.keys :: mb (fun (x : ByteArray) => Value.string x) (fun (x : world_data) => Ag x.cs) z00k a0.digests ::  M) (fun z M =>  M) := by
  refine .of func81 rfl ntmps81 rfl fun w0 D0 G0 => ?_
  unfold world_World_router at h
  refine .seq <| .reg rfl <| .op0 (OpP.toV (P.asg .k)) rfl <| .nil <| .then <| .seq ?_
  obtain ⟨y1, hj3, h⟩ := thn_eq h
  refine .cutx (γ := Unit) (E1 := fun z2 => [(10, Bo y1), (0, pt b00 0), (1, N a1)]) (L1 := fun z2 => [blk b00 58 (world_World.cs a0 z00a z00b z00c z00d z00e z00f z00g z00h z00i z00j z00k), bx chain_Chain.bd chain_Chain.fp z00a a0.sides.a0, bx chain_Chain.bd chain_Chain.fp z00b a0.sides.a1, bx client_Client.bd client_Client.fp z00c a0.clients.a0, bx client_Client.bd client_Client.fp z00d a0.clients.a1, bx router_Router.bd router_Router.fp z00e a0.routers.a0, bx router_Router.bd router_Router.fp z00f a0.routers.a1, bx relay_Relay.bd relay_Relay.fp z00g a0.relay, mb (fun (x : world_place) => Ag x.cs) (fun (x : Int) => N x) z00h a0.since, mb (fun (x : world_word) => Ag x.cs) (fun (x : Bool) => Bo x) z00i a0.told, mb (fun (x : ByteArray) => Value.string x) (fun (x : api_Inv) => Ag x.cs) z00j a0.keys, mb (fun (x : ByteArray) => Value.string x) (fun (x : world_data) => Ag x.cs) z00k a0.digests]) (R1 := fun z2 => []) ?_ (fun z2 => ?_)
  · clear h
    refine .reg rfl <| .opp (P.mov .g1) rfl <| .opp (P.bin .t0 .k .lss) rfl <| .opp (P.mov .t0) rfl <| .split .k0 (fun c4 => ?_) (fun c4 => ?_)
    · rw [if_pos c4] at hj3
      refine .gno rfl .g0 rfl rfl <| .gno rfl .g0 rfl rfl <| .opp (P.pickT .t0 .k) rfl <| .nil ?_
      subst hj3
      exact .stj () (.cons Mm.m0 (.cons Mm.m1 (.cons Mm.m2 .nil))) (.of (.cons .k0 (.cons .k0 (.cons .k0 (.cons .k0 (.cons .k0 (.cons .k0 (.cons .k0 (.cons .k0 (.cons .k0 (.cons .k0 (.cons .k0 (.cons .k0 .nil))))))))))))) .nil
    · rw [if_neg (ne_true_of_eq_false c4)] at hj3
      refine .gyes rfl .g0 <| .opp (P.mov .g2) rfl <| .gyes rfl .g1 <| .opp (P.bin .t0 .k .geq) rfl <| .opp (P.pickF .t1 .t0) rfl <| .nil ?_
      subst hj3
      exact .stj () (.cons Mm.m0 (.cons Mm.m1 (.cons Mm.m2 .nil))) (.of (.cons .k0 (.cons .k0 (.cons .k0 (.cons .k0 (.cons .k0 (.cons .k0 (.cons .k0 (.cons .k0 (.cons .k0 (.cons .k0 (.cons .k0 (.cons .k0 .nil))))))))))))) .nil
  · clear hj3
    refine .cond .t0 (fun c5 => ?_) (fun c5 => ?_)
    · rw [if_pos c5] at h
      refine .seq <| .reg rfl <| .opp (P.asg .k) rfl <| .nil <| .then <| .ret <| .thr ?_
      cases h
      exact .finw () (.r1 rfl (.tmp .g0)) trivial (Ls.of (.cons .k0 (.cons .k0 (.cons .k0 (.cons .k0 (.cons .k0 (.cons .k0 (.cons .k0 (.cons .k0 (.cons .k0 (.cons .k0 (.cons .k0 (.cons .k0 .nil))))))))))))) .nil
    · rw [if_neg (ne_true_of_eq_false c5)] at h
      refine .skip <| .then <| .seq <| .reg rfl <| .opp (P.mov .t0) rfl <| .opp (P.mov .t1) rfl <| .opp (P.bin .t0 .k .sub) rfl <| .opp (P.nilc .t1) rfl <| .opp (P.fa .t0 fa_58_3 rfl) rfl <| .ixS 0 .k1 (fun c6 => ?_) (fun c6 => ?_)
      · rw [if_pos c6] at h
        refine .opp (P.iac (i := 0) .t0 rfl .t0 runUnderlying52 sizeOf51 rfl rfl) rfl <| .op (V.ld (v := z00e) .t0 .k0 (.one isAgg51 rfl)) rfl <| .opp (P.asg .t0) rfl <| .nil <| .then <| .ret ?_
        cases h
        exact .finw () (.r1 rfl (.tmp .g0)) trivial (Ls.of (.cons .k0 (.cons .k0 (.cons .k0 (.cons .k0 (.cons .k0 (.cons .k0 (.cons .k0 (.cons .k0 (.cons .k0 (.cons .k0 (.cons .k0 (.cons .k0 .nil))))))))))))) .nil
      · rw [if_neg (ne_true_of_eq_false c6)] at h
        refine .ixS 1 .k0 (fun c7 => ?_) (fun c7 => ?_)
        · rw [if_pos c7] at h
          refine .opp (P.iac (i := 1) .t0 rfl .t0 runUnderlying52 sizeOf51 rfl rfl) rfl <| .op (V.ld (v := z00f) .t0 .k0 (.one isAgg51 rfl)) rfl <| .opp (P.asg .t0) rfl <| .nil <| .then <| .ret ?_
          cases h
          exact .finw () (.r1 rfl (.tmp .g0)) trivial (Ls.of (.cons .k0 (.cons .k0 (.cons .k0 (.cons .k0 (.cons .k0 (.cons .k0 (.cons .k0 (.cons .k0 (.cons .k0 (.cons .k0 (.cons .k0 (.cons .k0 .nil))))))))))))) .nil
        · rw [if_neg (ne_true_of_eq_false c7)] at h
          cases h
attribute [irreducible] world_World_router
noncomputable def world_World_Router (a0 : world_World) (a1 : Int) : Option (Nat) :=
  if (!(world_World_is a0)) = true then (some 0) else (Option.bind (world_World_router a0 a1) fun r2 => some r2)
set_option maxRecDepth 20000 in
set_option maxHeartbeats 8000000 in
theorem S_world_World_Router (b00 : Nat) (a0 : world_World) (z00a z00b z00c z00d z00e z00f z00g z00h z00i z00j z00k : Value) (a1 : Int) (r : Nat) (h : world_World_Router a0 a1 = some r) :
    SpecF Tryz.prog 121 [pt b00 0, N a1] [blk b00 58 (world_World.cs a0 z00a z00b z00c z00d z00e z00f z00g z00h z00i z00j z00k), bx chain_Chain.bd chain_Chain.fp z00a a0.sides.a0, bx chain_Chain.bd chain_Chain.fp z00b a0.sides.a1, bx client_Client.bd client_Client.fp z00c a0.clients.a0, bx client_Client.bd client_Client.fp z00d a0.clients.a1, bx router_Router.bd router_Router.fp z00e a0.routers.a0, bx router_Router.bd router_Router.fp z00f a0.routers.a1, bx relay_Relay.bd relay_Relay.fp z00g a0.relay, mb (fun (x : world_place) => Ag x.cs) (fun (x : Int) => N x) z00h a0.since, mb (fun (x : world_word) => Ag x.cs) (fun (x : Bool) => Bo x) z00i a0.told, mb (fun (x : ByteArray) => Value.string x) (fun (x : api_Inv) => Ag x.cs) z00j a0.keys, mb (fun (x : ByteArray) => Value.string x) (fun (x : world_data) => Ag x.cs) z00k a0.digests] [] (fun z : Unit => True) (fun z => pk r 0 [nilp, z00e, z00f]) (fun z M => blk b00 58 (world_World.cs a0 z00a z00b z00c z00d z00e z00f z00g z00h z00i z00j z00k) :: bx chain_Chain.bd chain_Chain.fp z00a a0.sides.a0 :: bx chain_Chain.bd chain_Chain.fp z00b a0.sides.a1 :: bx client_Client.bd client_Client.fp z00c a0.clients.a0 :: bx client_Client.bd client_Client.fp z00d a0.clients.a1 :: bx router_Router.bd router_Router.fp z00e a0.routers.a0 :: bx router_Router.bd router_Router.fp z00f a0.routers.a1 :: bx relay_Relay.bd relay_Relay.fp z00g a0.relay :: mb (fun (x : world_place) => Ag x.cs) (fun (x : Int) => N x) z00h a0.since :: mb (fun (x : world_word) => Ag x.cs) (fun (x : Bool) => Bo x) z00i a0.told :: mb (fun (x : ByteArray) => Value.string x) (fun (x : api_Inv) => Ag x.cs) z00j a0.keys :: mb (fun (x : ByteArray) => Value.string x) (fun (x : world_data) => Ag x.cs) z00k a0.digests ::  M) (fun z M =>  M) := by
  refine .of func121 rfl ntmps121 rfl fun w0 D0 G0 => ?_
  unfold world_World_Router at h
  refine .seq <| .reg rfl <| .op0 (OpP.toV (P.asg .k)) rfl <| .nil <| .then <| .seq <| .seq <| .reg rfl <| .opp (P.mov .g0) rfl <| .opg (G.call call23 (.cons .t0 .nil) (S_world_World_is b00 a0 z00a z00b z00c z00d z00e z00f z00g z00h z00i z00j z00k _ rfl) (.cons .k0 (.cons .k0 (.cons .k0 (.cons .k0 (.cons .k0 (.cons .k0 (.cons .k0 (.cons .k0 (.cons .k0 (.cons .k0 (.cons .k0 (.cons .k0 .nil)))))))))))) .nil (fun _ _ => rfl) (fun _ _ => rfl) rfl) rfl fun _ _ => .opp (P.not .t0) rfl <| .nil ?_
  refine .then <| .cond .t0 (fun c1 => ?_) (fun c1 => ?_)
  · rw [if_pos c1] at h
    refine .seq <| .reg rfl <| .opp (P.asg .k) rfl <| .nil <| .then <| .ret <| .thr ?_
    cases h
    exact .finw () (.r1 rfl (.tmp .g0)) trivial (Ls.of (.cons .k0 (.cons .k0 (.cons .k0 (.cons .k0 (.cons .k0 (.cons .k0 (.cons .k0 (.cons .k0 (.cons .k0 (.cons .k0 (.cons .k0 (.cons .k0 .nil))))))))))))) .nil
  · rw [if_neg (ne_true_of_eq_false c1)] at h
    refine .skip <| .then <| .seq <| .reg rfl <| .opp (P.mov .t0) rfl <| .opp (P.mov .t1) rfl ?_
    obtain ⟨r2, hr3, h⟩ := bnd_eq h
    refine .opg (G.call call81 (.cons .t1 (.cons .t0 .nil)) (S_world_World_router b00 a0 z00a z00b z00c z00d z00e z00f z00g z00h z00i z00j z00k a1 r2 hr3) (.cons .k0 (.cons .k0 (.cons .k0 (.cons .k0 (.cons .k0 (.cons .k0 (.cons .k0 (.cons .k0 (.cons .k0 (.cons .k0 (.cons .k0 (.cons .k0 .nil)))))))))))) .nil (fun _ _ => rfl) (fun _ _ => rfl) rfl) rfl fun _ _ => .opp (P.asg .t0) rfl <| .nil <| .then <| .ret ?_
    cases h
    exact .finw () (.r1 rfl (.tmp .g0)) trivial (Ls.of (.cons .k0 (.cons .k0 (.cons .k0 (.cons .k0 (.cons .k0 (.cons .k0 (.cons .k0 (.cons .k0 (.cons .k0 (.cons .k0 (.cons .k0 (.cons .k0 .nil))))))))))))) .nil
attribute [irreducible] world_World_Router
noncomputable def judge_Router_bx (a0 : Option world_World) (a1 : Int) : Option ((List judge_Verdict)) :=
  Option.bind a0 fun (y2 : world_World) => Option.bind (world_World_Router y2 a1) fun r16 => if (pkb r16 0 [true, y2.routers.a0.isNone, y2.routers.a1.isNone]) = true then (some ([] : List judge_Verdict)) else none
set_option maxRecDepth 20000 in
set_option maxHeartbeats 8000000 in
theorem S_judge_Router_bx (v00 : Value) (a0 : Option world_World) (a1 : Int) (r : (List judge_Verdict)) (h : judge_Router_bx a0 a1 = some r) :
    SpecF Tryz.prog 67 [v00, N a1] [bx world_World.bd world_World.fp v00 a0] [] (fun z : Value => True) (fun z => z) (fun z M => bx world_World.bd world_World.fp v00 a0 :: lst 226 4 z (r.map judge_Verdict.cs) ::  M) (fun z M =>  M) := by
  refine .of func67 rfl ntmps67 rfl fun w0 D0 G0 => ?_
  unfold judge_Router_bx at h
  refine .seq <| .reg rfl <| .op0 (OpP.toV (P.asg .k)) rfl <| .nil <| .then <| .seq <| .seq <| .reg rfl <| .opp (P.mov .g0) rfl <| .opp (P.mov .g2) rfl ?_
  obtain ⟨y2, hy3, h⟩ := bnd_eq h
  refine .bxo .k0 hy3 (fun _ _ _ => rfl) fun ⟨b4, u5, u6, u7, u8, u9, u10, u11, u12, u13, u14, u15⟩ hz1 => ?_
  replace hz1 : v00 = pt b4 0 := hz1
  subst hz1
  obtain ⟨r16, hr17, h⟩ := bnd_eq h
  refine .opg (G.call call121 (.cons .t1 (.cons .t0 .nil)) (S_world_World_Router b4 y2 u5 u6 u7 u8 u9 u10 u11 u12 u13 u14 u15 a1 r16 hr17) (.cons .k0 (.cons .k0 (.cons .k0 (.cons .k0 (.cons .k0 (.cons .k0 (.cons .k0 (.cons .k0 (.cons .k0 (.cons .k0 (.cons .k0 (.cons .k0 .nil)))))))))))) .nil (fun _ _ => rfl) (fun _ _ => rfl) rfl) rfl fun _ _ => .fact .k5 (fun _ hh => bx_nil (P := Tryz.prog) (t := 51) (e := 110) (by kernel_rfl) hh) fun hq18 => .fact .k6 (fun _ hh => bx_nil (P := Tryz.prog) (t := 51) (e := 110) (by kernel_rfl) hh) fun hq19 => .opp (P.bin .t0 .k (pk_three (.nil_eql (e := 110) (by kernel_rfl)) hq18.1 hq19.1)) rfl <| .nil <| .then <| .cond .t0 (fun c20 => ?_) (fun c20 => ?_)
  · rw [if_pos c20] at h
    refine .seq <| .reg rfl <| .opp (P.asg .k) rfl <| .nil <| .then <| .ret <| .thr ?_
    cases h
    exact .bxc world_World.bd world_World.fp (b4, u5, u6, u7, u8, u9, u10, u11, u12, u13, u14, u15) y2 (z := (pt b4 0)) rfl (.cons .k0 (.cons .k0 (.cons .k0 (.cons .k0 (.cons .k0 (.cons .k0 (.cons .k0 (.cons .k0 (.cons .k0 (.cons .k0 (.cons .k0 (.cons .k0 .nil)))))))))))) <| .conseq .k0 (q := bx world_World.bd world_World.fp (pt b4 0) a0) (fun _ h_ => by rw [hy3]; exact h_) <| .lnil 226 4 <| .finw nilSl (.r1 rfl (.tmp .g0)) trivial (Ls.of (.cons .k1 (.cons .k0 .nil))) .nil
  · rw [if_neg (ne_true_of_eq_false c20)] at h
    refine .skip <| .then <| .seq <| .reg rfl <| .opp (P.mov .t0) rfl ?_
    cases h
attribute [irreducible] judge_Router_bx
noncomputable def driver_Main (a0 : world_Setup) (a1 : List UInt8) : Option (driver_Report × Int) :=
  Option.bind (script_Read a1) fun r3 => if (decide (r3.2 ≠ 0)) = true then (some (⟨0, ⟨0, 0⟩, 0, 0, 0, false, false⟩, r3.2)) else (Option.bind (script_Run a0 r3.1) fun r8 => if (decide (r8.2 ≠ 0)) = true then (some (⟨0, ⟨0, 0⟩, 0, 0, 0, false, false⟩, r8.2)) else (Option.bind (world_World_Now_bx r8.1) fun r12 => Option.bind (world_World_Mail_bx r8.1) fun r14 => Option.bind (Option.bind r8.1 fun (y24 : world_World) => if (decide ((world_World_Side_k0 y24) = 0)) = true then (Option.bind (chain_Chain_Events_bx none 0) fun r39 => Option.bind (chain_Chain_State_bx none) fun r42 => Option.bind (chain_Chain_Events_bx none 0) fun r45 => Option.bind (supply_Fits r42 r45) fun r48 => if r48 = true then (Option.bind (chain_Chain_State_bx none) fun r51 => Option.bind (supply_Whole r51) fun r54 => some (((r39.length : Int), r54))) else (some (((r39.length : Int), false)))) else (Option.bind (chain_Chain_Events_bx y24.sides.a0 0) fun r56 => Option.bind (chain_Chain_State_bx y24.sides.a0) fun r59 => Option.bind (chain_Chain_Events_bx y24.sides.a0 0) fun r62 => Option.bind (supply_Fits r59 r62) fun r65 => if r65 = true then (Option.bind (chain_Chain_State_bx y24.sides.a0) fun r68 => Option.bind (supply_Whole r68) fun r71 => some (((r56.length : Int), r71))) else (some (((r56.length : Int), false))))) fun (y20 : Int × Bool) => Option.bind (Option.bind r8.1 fun (y77 : world_World) => if (decide ((world_World_Side_k1 y77) = 0)) = true then (Option.bind (chain_Chain_Events_bx none 0) fun r92 => if y20.2 = true then (Option.bind (chain_Chain_State_bx none) fun r96 => Option.bind (chain_Chain_Events_bx none 0) fun r99 => Option.bind (supply_Fits r96 r99) fun r102 => if r102 = true then (Option.bind (chain_Chain_State_bx none) fun r105 => Option.bind (supply_Whole r105) fun r108 => some (((r92.length : Int), r108))) else (some (((r92.length : Int), false)))) else (some (((r92.length : Int), false)))) else (Option.bind (chain_Chain_Events_bx y77.sides.a1 0) fun r110 => if y20.2 = true then (Option.bind (chain_Chain_State_bx y77.sides.a1) fun r114 => Option.bind (chain_Chain_Events_bx y77.sides.a1 0) fun r117 => Option.bind (supply_Fits r114 r117) fun r120 => if r120 = true then (Option.bind (chain_Chain_State_bx y77.sides.a1) fun r123 => Option.bind (supply_Whole r123) fun r126 => some (((r110.length : Int), r126))) else (some (((r110.length : Int), false)))) else (some (((r110.length : Int), false))))) fun (y73 : Int × Bool) => Option.bind (judge_User_bx r8.1 0) fun r128 => Option.bind (judge_Count r128 2 2) fun r131 => Option.bind (judge_Well r128) fun r133 => Option.bind (Option.bind (judge_User_bx r8.1 1) fun r138 => Option.bind (judge_Count r138 2 2) fun r141 => if r133 = true then (Option.bind (judge_Well r138) fun r144 => some ((IntKind.i64.wrap ((IntKind.i64.wrap (0 + (r128.length : Int))) + (r138.length : Int)), IntKind.i64.wrap ((IntKind.i64.wrap (0 + r131)) + r141), r144))) else (some ((IntKind.i64.wrap ((IntKind.i64.wrap (0 + (r128.length : Int))) + (r138.length : Int)), IntKind.i64.wrap ((IntKind.i64.wrap (0 + r131)) + r141), false)))) fun (y135 : Int × Int × Bool) => Option.bind (if y135.2.2 = true then (Option.bind (judge_Router_bx r8.1 2) fun r150 => Option.bind (judge_Well r150) fun r153 => some r153) else (some false)) fun (y146 : Bool) => Option.bind (if y146 = true then (Option.bind (judge_Router_bx r8.1 3) fun r159 => Option.bind (judge_Well r159) fun r162 => some r162) else (some false)) fun (y155 : Bool) => some ((⟨r12, ⟨y20.1, y73.1⟩, (r14.length : Int), y135.1, y135.2.1, y155, y73.2⟩, 0))))
set_option maxRecDepth 20000 in
set_option maxHeartbeats 8000000 in
theorem S_driver_Main (a0 : world_Setup) (v01 : Value) (a1 : List UInt8) (r : driver_Report × Int) (h : driver_Main a0 a1 = some r) :
    SpecF Tryz.prog 31 [Ag (world_Setup.cs a0), v01] [] [rows 1 v01 (a1.map (fun x => [B8 x]))] (fun z : Unit => True) (fun z => Tu [Ag (driver_Report.cs r.1), N r.2]) (fun z M =>  M) (fun z M =>  M) := by
  refine .of func31 rfl ntmps31 rfl fun w0 D0 G0 => ?_
  unfold driver_Main at h
  refine .seq <| .reg rfl <| .opx (X.box (cs := (world_Setup.cs a0)) .t0 rfl) rfl fun b1 => .opx (X.alc (cs := (driver_Report.cs ⟨0, ⟨0, 0⟩, 0, 0, 0, false, false⟩)) zeroValue38 rfl) rfl fun b2 => .op0 (OpP.toV (P.asg .k)) rfl <| .nil <| .then <| .seq <| .reg rfl <| .opp (P.mov .t2) rfl ?_
  obtain ⟨r3, hr4, h⟩ := bnd_eq h
  refine .opg (G.call call57 (.cons .t0 .nil) (S_script_Read v01 a1 r3 hr4) .nil (.cons Mm.m0 .nil) (fun _ _ => rfl) (fun _ _ => rfl) rfl) rfl fun ⟨u5, w6⟩ _ => .opp (P.mov .t0) rfl <| .opp (P.ext (v := u5) .g0 rfl) rfl <| .opp (P.ext (v := N r3.2) .t1 rfl) rfl <| .opp (P.asg .t1) rfl <| .opp (P.asg .t1) rfl <| .nil <| .then <| .seq <| .seq <| .reg rfl <| .opp (P.mov .g0) rfl ?_
  refine .opp (P.bin .t0 .k .neq) rfl <| .nil <| .then <| .cond .t0 (fun c7 => ?_) (fun c7 => ?_)
  · rw [if_pos c7] at h
    refine .seq <| .reg rfl <| .opp (P.bld (v := Ag (driver_Report.cs ⟨0, ⟨0, 0⟩, 0, 0, 0, false, false⟩)) .nil (bld_run zeroValue38 runUnderlying38 pl_38 (by kernel_rfl))) rfl <| .opp (P.mov .t1) rfl <| .opg (G.str .t1 .g2 .k1 (.mk (cs' := (driver_Report.cs ⟨0, ⟨0, 0⟩, 0, 0, 0, false, false⟩)) sizeOf38 rfl rfl rfl rfl)) rfl fun _ _ => .opp (P.asg .t0) rfl <| .nil <| .then <| .ret <| .thr ?_
    cases h
    exact .finw () (.r2 rfl (.cell .g2 .k0 (.agg isAgg38 sizeOf38 rfl rfl)) (.tmp .g0)) trivial (Ls.of .nil) .nil
  · rw [if_neg (ne_true_of_eq_false c7)] at h
    refine .skip <| .then <| .seq <| .reg rfl <| .op (V.ld (v := Ag (world_Setup.cs a0)) .t3 .k2 (.agg isAgg23 sizeOf23 rfl rfl)) rfl <| .opp (P.mov .t2) rfl <| .frz .k0 ?_
    obtain ⟨r8, hr9, h⟩ := bnd_eq h
    refine .opg (G.call call58 (.cons .t1 (.cons .t0 .nil)) (S_script_Run a0 u5 r3.1 w6 r8 hr9) .nil (.cons Mm.m0 (.cons Mm.m1 .nil)) (fun _ _ => rfl) (fun _ _ => rfl) rfl) rfl fun u10 _ => .opp (P.mov .t0) rfl <| .opp (P.ext (v := u10) .g0 rfl) rfl <| .opp (P.ext (v := N r8.2) .t1 rfl) rfl <| .opp (P.asg .t1) rfl <| .drop .k2 <| .opp (P.asg .t1) rfl <| .nil <| .then <| .seq <| .seq <| .reg rfl ?_
    refine .opp (P.mov .g0) rfl <| .opp (P.bin .t0 .k .neq) rfl <| .nil <| .then <| .cond .t0 (fun c11 => ?_) (fun c11 => ?_)
    · rw [if_pos c11] at h
      refine .seq <| .reg rfl <| .opp (P.bld (v := Ag (driver_Report.cs ⟨0, ⟨0, 0⟩, 0, 0, 0, false, false⟩)) .nil (bld_run zeroValue38 runUnderlying38 pl_38 (by kernel_rfl))) rfl <| .opp (P.mov .t1) rfl <| .opg (G.str .t1 .g2 .k1 (.mk (cs' := (driver_Report.cs ⟨0, ⟨0, 0⟩, 0, 0, 0, false, false⟩)) sizeOf38 rfl rfl rfl rfl)) rfl fun _ _ => .opp (P.asg .t0) rfl <| .nil <| .then <| .ret <| .thr ?_
      cases h
      exact .finw () (.r2 rfl (.cell .g2 .k0 (.agg isAgg38 sizeOf38 rfl rfl)) (.tmp .g0)) trivial (Ls.of .nil) .nil
    · rw [if_neg (ne_true_of_eq_false c11)] at h
      refine .skip <| .then <| .seq <| .reg rfl <| .opp (P.mov .g1) rfl ?_
      obtain ⟨r12, hr13, h⟩ := bnd_eq h
      refine .opg (G.call call8 (.cons .t0 .nil) (S_world_World_Now_bx u10 r8.1 r12 hr13) (.cons .k0 .nil) .nil (fun _ _ => rfl) (fun _ _ => rfl) rfl) rfl fun _ _ => .opp (P.mov .g2) rfl ?_
      obtain ⟨r14, hr15, h⟩ := bnd_eq h
      refine .opg (G.call call59 (.cons .t0 .nil) (S_world_World_Mail_bx u10 r8.1 r14 hr15) (.cons .k0 .nil) .nil (fun _ _ => rfl) (fun _ _ => rfl) rfl) rfl fun ⟨u16, w17⟩ _ => .gzl Mm.m1 fun hz18 => .op (V.lnr (n := r14.length) .t0 Mm.m0 (zip_len hz18) runUnderlying54) rfl <| .opp (P.bld (v := Ag (driver_Report.cs ⟨r12, ⟨0, 0⟩, (r14.length : Int), 0, 0, true, true⟩)) (.cons .t1 (.cons .t0 (.cons .k (.cons .k .nil)))) (bld_run zeroValue38 runUnderlying38 pl_38 (by kernel_rfl))) rfl <| .opx (X.alc (cs := (driver_Report.cs ⟨0, ⟨0, 0⟩, 0, 0, 0, false, false⟩)) zeroValue38 rfl) rfl fun b19 => .opg (G.str .t1 .g0 .k0 (.mk (cs' := (driver_Report.cs ⟨r12, ⟨0, 0⟩, (r14.length : Int), 0, 0, true, true⟩)) sizeOf38 rfl rfl rfl rfl)) rfl fun _ _ => .nil <| .then <| .seq <| .seq <| .reg rfl <| .opp (P.mov .k) rfl ?_
      refine .nil <| .then <| .block <| .rounds 3 <| .rd <| .seq <| .reg rfl <| .opp (P.bin (v := Bo true) .g0 .k (BinV.lss.boolc (by decide))) rfl <| .nil <| .then <| .seq <| .condT .t0 ?_
      refine .skip <| .then ?_
      obtain ⟨y20, hj22, h⟩ := bnd_eq h
      refine .cutx (γ := Unit) (E1 := fun z21 => [(40, N 0), (9, pt b19 0), (8, u10), (4, pt b2 0)]) (L1 := fun z21 => [blk b19 38 (driver_Report.cs ⟨r12, ⟨y20.1, 0⟩, (r14.length : Int), 0, 0, true, y20.2⟩), blk b2 38 (driver_Report.cs ⟨0, ⟨0, 0⟩, 0, 0, 0, false, false⟩), bx world_World.bd world_World.fp u10 r8.1]) (R1 := fun z21 => [rows 1 v01 (a1.map (fun x => [B8 x]))]) ?_ (fun z21 => ?_)
      · clear h
        refine .block <| .seq <| .reg rfl <| .opp (P.mov .g0) rfl <| .opp (P.asg .t0) rfl <| .nil <| .then <| .seq <| .reg rfl <| .opp (P.mov .g4) rfl <| .opp (P.mov .g1) rfl ?_
        obtain ⟨y24, hy25, hj22⟩ := bnd_eq hj22
        refine .bxo .k1 hy25 (fun _ _ _ => rfl) fun ⟨b26, u27, u28, u29, u30, u31, u32, u33, u34, u35, u36, u37⟩ hz23 => ?_
        replace hz23 : u10 = pt b26 0 := hz23
        subst hz23
        refine .opg (G.call call9 (.cons .t1 (.cons .t0 .nil)) (S_world_World_Side_k0 b26 y24 u27 u28 u29 u30 u31 u32 u33 u34 u35 u36 u37 _ rfl) (.cons .k0 (.cons .k0 (.cons .k0 (.cons .k0 (.cons .k0 (.cons .k0 (.cons .k0 (.cons .k0 (.cons .k0 (.cons .k0 (.cons .k0 (.cons .k0 .nil)))))))))))) .nil (fun _ _ => rfl) (fun _ _ => rfl) rfl) rfl fun _ _ => .opp (P.asg .t0) rfl <| .nil <| .then <| .seq <| .reg rfl <| .opp (P.mov .t1) rfl <| .opp (P.mov .g1) rfl <| .dec ((world_World_Side_k0 y24) = 0) (fun c38 => ?_) (fun c38 => ?_)
        · rw [if_pos c38] at hj22
          refine .pkV (u := nilp) .k0 (by rw [of_decide_eq_true c38]; rfl) <| .pkV (u := nilp) .k2 (by rw [of_decide_eq_true c38]; rfl) <| .bxn chain_Chain.bd chain_Chain.fp ?_
          obtain ⟨r39, hr40, hj22⟩ := bnd_eq hj22
          refine .opg (G.call call60 (.cons .t1 (.cons .k .nil)) (S_chain_Chain_Events_bx nilp none 0 r39 hr40) (.cons .k0 .nil) .nil (fun _ _ => rfl) (fun _ _ => rfl) rfl) rfl fun u41 _ => .op (V.lnl (n := r39.length) .t0 .k1 map_len runUnderlying91) rfl <| .opp (P.fa .g4 fa_38_1 rfl) rfl <| .opp (P.iac (i := 0) .t3 rfl .t0 runUnderlying36 sizeOf3 rfl rfl) rfl <| .opg (G.str .t1 .t0 .k14 (.mk (cs' := (driver_Report.cs ⟨r12, ⟨(r39.length : Int), 0⟩, (r14.length : Int), 0, 0, true, true⟩)) sizeOf3 rfl rfl rfl rfl)) rfl fun _ _ => .nil <| .then <| .reg rfl <| .opp (P.fa .g2 fa_38_6 rfl) rfl <| .op (V.ld (v := Bo true) .t0 .k0 (.one isAgg4 rfl)) rfl <| .opp (P.mov .t0) rfl <| .gyes rfl .g0 ?_
          refine .opp (P.mov .g1) rfl <| .gyes rfl .g1 ?_
          obtain ⟨r42, hr43, hj22⟩ := bnd_eq hj22
          refine .opg (G.call call62 (.cons .t0 .nil) (S_chain_Chain_State_bx nilp none r42 hr43) (.cons .k1 .nil) .nil (fun _ _ => rfl) (fun _ _ => rfl) rfl) rfl fun u44 _ => .gyes rfl .g1 <| .opp (P.mov .g2) rfl <| .gyes rfl .g2 ?_
          obtain ⟨r45, hr46, hj22⟩ := bnd_eq hj22
          refine .opg (G.call call60 (.cons .t0 (.cons .k .nil)) (S_chain_Chain_Events_bx nilp none 0 r45 hr46) (.cons .k0 .nil) .nil (fun _ _ => rfl) (fun _ _ => rfl) rfl) rfl fun u47 _ => .gyes rfl .g2 <| .frz .k2 <| .frz .k1 ?_
          obtain ⟨r48, hr49, hj22⟩ := bnd_eq hj22
          refine .opg (G.call call61 (.cons .t1 (.cons .t0 .nil)) (S_supply_Fits r42 u44 u47 r45 r48 hr49) .nil (.cons Mm.m1 (.cons Mm.m0 .nil)) (fun _ _ => rfl) (fun _ _ => rfl) rfl) rfl fun _ _ => .opp (P.pickT .t1 .t0) rfl <| .opp (P.mov .t0) rfl <| .split .k0 (fun c50 => ?_) (fun c50 => ?_)
          · rw [if_pos c50] at hj22
            refine .gyes rfl .g0 <| .opp (P.mov .t1) rfl <| .gyes rfl .g1 ?_
            obtain ⟨r51, hr52, hj22⟩ := bnd_eq hj22
            refine .opg (G.call call62 (.cons .t0 .nil) (S_chain_Chain_State_bx nilp none r51 hr52) (.cons .k0 .nil) .nil (fun _ _ => rfl) (fun _ _ => rfl) rfl) rfl fun u53 _ => .gyes rfl .g1 <| .frz .k1 ?_
            obtain ⟨r54, hr55, hj22⟩ := bnd_eq hj22
            refine .opg (G.call call63 (.cons .t0 .nil) (S_supply_Whole r51 u53 r54 hr55) .nil (.cons Mm.m0 .nil) (fun _ _ => rfl) (fun _ _ => rfl) rfl) rfl fun _ _ => .opp (P.pickT .t1 .t0) rfl <| .opp (P.fa .g2 fa_38_6 rfl) rfl <| .opg (G.str .t1 .t0 .k1 (.mk (cs' := (driver_Report.cs ⟨r12, ⟨(r39.length : Int), 0⟩, (r14.length : Int), 0, 0, true, r54⟩)) sizeOf4 rfl rfl rfl rfl)) rfl fun _ _ => .nil <| .inn ?_
            cases hj22
            exact .bxc world_World.bd world_World.fp (b26, u27, u28, u29, u30, u31, u32, u33, u34, u35, u36, u37) y24 (z := (pt b26 0)) rfl (.cons .k3 (.cons .k3 (.cons .k3 (.cons .k3 (.cons .k3 (.cons .k3 (.cons .k3 (.cons .k3 (.cons .k3 (.cons .k3 (.cons .k3 (.cons .k3 .nil)))))))))))) <| .conseq .k0 (q := bx world_World.bd world_World.fp (pt b26 0) r8.1) (fun _ h_ => by rw [hy25]; exact h_) <| .stj () (.cons Mm.m0 (.cons Mm.m1 (.cons Mm.m3 (.cons Mm.m4 .nil)))) (.of (.cons .k1 (.cons .k3 (.cons .k0 .nil)))) (.cons Mm.m7 .nil)
          · rw [if_neg (ne_true_of_eq_false c50)] at hj22
            refine .gno rfl .g0 rfl rfl <| .gno rfl .g0 rfl rfl <| .gno rfl .g0 rfl rfl <| .opp (P.pickF .t0 .k) rfl <| .opp (P.fa .g3 fa_38_6 rfl) rfl <| .opg (G.str .t1 .t0 .k1 (.mk (cs' := (driver_Report.cs ⟨r12, ⟨(r39.length : Int), 0⟩, (r14.length : Int), 0, 0, true, false⟩)) sizeOf4 rfl rfl rfl rfl)) rfl fun _ _ => .nil <| .inn ?_
            cases hj22
            exact .bxc world_World.bd world_World.fp (b26, u27, u28, u29, u30, u31, u32, u33, u34, u35, u36, u37) y24 (z := (pt b26 0)) rfl (.cons .k3 (.cons .k3 (.cons .k3 (.cons .k3 (.cons .k3 (.cons .k3 (.cons .k3 (.cons .k3 (.cons .k3 (.cons .k3 (.cons .k3 (.cons .k3 .nil)))))))))))) <| .conseq .k0 (q := bx world_World.bd world_World.fp (pt b26 0) r8.1) (fun _ h_ => by rw [hy25]; exact h_) <| .stj () (.cons Mm.m1 (.cons Mm.m2 (.cons Mm.m4 (.cons Mm.m5 .nil)))) (.of (.cons .k1 (.cons .k3 (.cons .k0 .nil)))) (.cons Mm.m6 .nil)
        · rw [if_neg (ne_true_of_eq_false c38)] at hj22
          refine .pkV (u := u27) .k0 (by rw [pk, if_neg (of_decide_eq_false c38), pk]) <| .pkV (u := u27) .k2 (by rw [pk, if_neg (of_decide_eq_false c38), pk]) ?_
          obtain ⟨r56, hr57, hj22⟩ := bnd_eq hj22
          refine .opg (G.call call60 (.cons .t1 (.cons .k .nil)) (S_chain_Chain_Events_bx u27 y24.sides.a0 0 r56 hr57) (.cons .k1 .nil) .nil (fun _ _ => rfl) (fun _ _ => rfl) rfl) rfl fun u58 _ => .op (V.lnl (n := r56.length) .t0 .k1 map_len runUnderlying91) rfl <| .opp (P.fa .g4 fa_38_1 rfl) rfl <| .opp (P.iac (i := 0) .t3 rfl .t0 runUnderlying36 sizeOf3 rfl rfl) rfl <| .opg (G.str .t1 .t0 .k13 (.mk (cs' := (driver_Report.cs ⟨r12, ⟨(r56.length : Int), 0⟩, (r14.length : Int), 0, 0, true, true⟩)) sizeOf3 rfl rfl rfl rfl)) rfl fun _ _ => .nil <| .then <| .reg rfl <| .opp (P.fa .g2 fa_38_6 rfl) rfl <| .op (V.ld (v := Bo true) .t0 .k0 (.one isAgg4 rfl)) rfl <| .opp (P.mov .t0) rfl <| .gyes rfl .g0 ?_
          refine .opp (P.mov .g1) rfl <| .gyes rfl .g1 ?_
          obtain ⟨r59, hr60, hj22⟩ := bnd_eq hj22
          refine .opg (G.call call62 (.cons .t0 .nil) (S_chain_Chain_State_bx u27 y24.sides.a0 r59 hr60) (.cons .k1 .nil) .nil (fun _ _ => rfl) (fun _ _ => rfl) rfl) rfl fun u61 _ => .gyes rfl .g1 <| .opp (P.mov .g2) rfl <| .gyes rfl .g2 ?_
          obtain ⟨r62, hr63, hj22⟩ := bnd_eq hj22
          refine .opg (G.call call60 (.cons .t0 (.cons .k .nil)) (S_chain_Chain_Events_bx u27 y24.sides.a0 0 r62 hr63) (.cons .k0 .nil) .nil (fun _ _ => rfl) (fun _ _ => rfl) rfl) rfl fun u64 _ => .gyes rfl .g2 <| .frz .k2 <| .frz .k1 ?_
          obtain ⟨r65, hr66, hj22⟩ := bnd_eq hj22
          refine .opg (G.call call61 (.cons .t1 (.cons .t0 .nil)) (S_supply_Fits r59 u61 u64 r62 r65 hr66) .nil (.cons Mm.m1 (.cons Mm.m0 .nil)) (fun _ _ => rfl) (fun _ _ => rfl) rfl) rfl fun _ _ => .opp (P.pickT .t1 .t0) rfl <| .opp (P.mov .t0) rfl <| .split .k0 (fun c67 => ?_) (fun c67 => ?_)
          · rw [if_pos c67] at hj22
            refine .gyes rfl .g0 <| .opp (P.mov .t1) rfl <| .gyes rfl .g1 ?_
            obtain ⟨r68, hr69, hj22⟩ := bnd_eq hj22
            refine .opg (G.call call62 (.cons .t0 .nil) (S_chain_Chain_State_bx u27 y24.sides.a0 r68 hr69) (.cons .k0 .nil) .nil (fun _ _ => rfl) (fun _ _ => rfl) rfl) rfl fun u70 _ => .gyes rfl .g1 <| .frz .k1 ?_
            obtain ⟨r71, hr72, hj22⟩ := bnd_eq hj22
            refine .opg (G.call call63 (.cons .t0 .nil) (S_supply_Whole r68 u70 r71 hr72) .nil (.cons Mm.m0 .nil) (fun _ _ => rfl) (fun _ _ => rfl) rfl) rfl fun _ _ => .opp (P.pickT .t1 .t0) rfl <| .opp (P.fa .g2 fa_38_6 rfl) rfl <| .opg (G.str .t1 .t0 .k1 (.mk (cs' := (driver_Report.cs ⟨r12, ⟨(r56.length : Int), 0⟩, (r14.length : Int), 0, 0, true, r71⟩)) sizeOf4 rfl rfl rfl rfl)) rfl fun _ _ => .nil <| .inn ?_
            cases hj22
            exact .bxc world_World.bd world_World.fp (b26, u27, u28, u29, u30, u31, u32, u33, u34, u35, u36, u37) y24 (z := (pt b26 0)) rfl (.cons .k3 (.cons .k1 (.cons .k2 (.cons .k2 (.cons .k2 (.cons .k2 (.cons .k2 (.cons .k2 (.cons .k2 (.cons .k2 (.cons .k2 (.cons .k2 .nil)))))))))))) <| .conseq .k0 (q := bx world_World.bd world_World.fp (pt b26 0) r8.1) (fun _ h_ => by rw [hy25]; exact h_) <| .stj () (.cons Mm.m0 (.cons Mm.m1 (.cons Mm.m3 (.cons Mm.m4 .nil)))) (.of (.cons .k1 (.cons .k2 (.cons .k0 .nil)))) (.cons Mm.m7 .nil)
          · rw [if_neg (ne_true_of_eq_false c67)] at hj22
            refine .gno rfl .g0 rfl rfl <| .gno rfl .g0 rfl rfl <| .gno rfl .g0 rfl rfl <| .opp (P.pickF .t0 .k) rfl <| .opp (P.fa .g3 fa_38_6 rfl) rfl <| .opg (G.str .t1 .t0 .k1 (.mk (cs' := (driver_Report.cs ⟨r12, ⟨(r56.length : Int), 0⟩, (r14.length : Int), 0, 0, true, false⟩)) sizeOf4 rfl rfl rfl rfl)) rfl fun _ _ => .nil <| .inn ?_
            cases hj22
            exact .bxc world_World.bd world_World.fp (b26, u27, u28, u29, u30, u31, u32, u33, u34, u35, u36, u37) y24 (z := (pt b26 0)) rfl (.cons .k3 (.cons .k1 (.cons .k2 (.cons .k2 (.cons .k2 (.cons .k2 (.cons .k2 (.cons .k2 (.cons .k2 (.cons .k2 (.cons .k2 (.cons .k2 .nil)))))))))))) <| .conseq .k0 (q := bx world_World.bd world_World.fp (pt b26 0) r8.1) (fun _ h_ => by rw [hy25]; exact h_) <| .stj () (.cons Mm.m1 (.cons Mm.m2 (.cons Mm.m4 (.cons Mm.m5 .nil)))) (.of (.cons .k1 (.cons .k2 (.cons .k0 .nil)))) (.cons Mm.m6 .nil)
      · clear hj22
        refine .reg rfl <| .opp (P.bin (v := N 1) .g0 .k (.addc (by decide))) rfl <| .drop .k1 <| .opp (P.mov .t0) rfl <| .nil <| .then <| .rd <| .seq <| .reg rfl <| .opp (P.bin (v := Bo true) .g0 .k (BinV.lss.boolc (by decide))) rfl <| .nil <| .then ?_
        refine .seq <| .condT .t0 <| .skip <| .then ?_
        obtain ⟨y73, hj75, h⟩ := bnd_eq h
        refine .cutx (γ := Unit) (E1 := fun z74 => [(40, N 1), (9, pt b19 0), (8, u10), (4, pt b2 0)]) (L1 := fun z74 => [blk b19 38 (driver_Report.cs ⟨r12, ⟨y20.1, y73.1⟩, (r14.length : Int), 0, 0, true, y73.2⟩), blk b2 38 (driver_Report.cs ⟨0, ⟨0, 0⟩, 0, 0, 0, false, false⟩), bx world_World.bd world_World.fp u10 r8.1]) (R1 := fun z74 => [rows 1 v01 (a1.map (fun x => [B8 x]))]) ?_ (fun z74 => ?_)
        · clear h
          refine .block <| .seq <| .reg rfl <| .opp (P.mov .g0) rfl <| .opp (P.asg .t0) rfl <| .nil <| .then <| .seq <| .reg rfl <| .opp (P.mov .g3) rfl <| .opp (P.mov .g1) rfl ?_
          obtain ⟨y77, hy78, hj75⟩ := bnd_eq hj75
          refine .bxo .k2 hy78 (fun _ _ _ => rfl) fun ⟨b79, u80, u81, u82, u83, u84, u85, u86, u87, u88, u89, u90⟩ hz76 => ?_
          replace hz76 : u10 = pt b79 0 := hz76
          subst hz76
          refine .opg (G.call call9 (.cons .t1 (.cons .t0 .nil)) (S_world_World_Side_k1 b79 y77 u80 u81 u82 u83 u84 u85 u86 u87 u88 u89 u90 _ rfl) (.cons .k0 (.cons .k0 (.cons .k0 (.cons .k0 (.cons .k0 (.cons .k0 (.cons .k0 (.cons .k0 (.cons .k0 (.cons .k0 (.cons .k0 (.cons .k0 .nil)))))))))))) .nil (fun _ _ => rfl) (fun _ _ => rfl) rfl) rfl fun _ _ => .opp (P.asg .t0) rfl <| .nil <| .then <| .seq <| .reg rfl <| .opp (P.mov .t1) rfl <| .opp (P.mov .g1) rfl <| .dec ((world_World_Side_k1 y77) = 0) (fun c91 => ?_) (fun c91 => ?_)
          · rw [if_pos c91] at hj75
            refine .pkV (u := nilp) .k0 (by rw [of_decide_eq_true c91]; rfl) <| .pkV (u := nilp) .k2 (by rw [of_decide_eq_true c91]; rfl) <| .bxn chain_Chain.bd chain_Chain.fp ?_
            obtain ⟨r92, hr93, hj75⟩ := bnd_eq hj75
            refine .opg (G.call call60 (.cons .t1 (.cons .k .nil)) (S_chain_Chain_Events_bx nilp none 0 r92 hr93) (.cons .k0 .nil) .nil (fun _ _ => rfl) (fun _ _ => rfl) rfl) rfl fun u94 _ => .op (V.lnl (n := r92.length) .t0 .k1 map_len runUnderlying91) rfl <| .opp (P.fa .g4 fa_38_1 rfl) rfl <| .opp (P.iac (i := 1) .t3 rfl .t0 runUnderlying36 sizeOf3 rfl rfl) rfl <| .opg (G.str .t1 .t0 .k14 (.mk (cs' := (driver_Report.cs ⟨r12, ⟨y20.1, (r92.length : Int)⟩, (r14.length : Int), 0, 0, true, y20.2⟩)) sizeOf3 rfl rfl rfl rfl)) rfl fun _ _ => .nil <| .then <| .reg rfl <| .opp (P.fa .g2 fa_38_6 rfl) rfl <| .op (V.ld (v := Bo y20.2) .t0 .k0 (.one isAgg4 rfl)) rfl <| .opp (P.mov .t0) rfl <| .split .k0 (fun c95 => ?_) (fun c95 => ?_)
            · rw [if_pos c95] at hj75
              refine .gyes rfl .g0 <| .opp (P.mov .g1) rfl <| .gyes rfl .g1 ?_
              obtain ⟨r96, hr97, hj75⟩ := bnd_eq hj75
              refine .opg (G.call call62 (.cons .t0 .nil) (S_chain_Chain_State_bx nilp none r96 hr97) (.cons .k1 .nil) .nil (fun _ _ => rfl) (fun _ _ => rfl) rfl) rfl fun u98 _ => .gyes rfl .g1 <| .opp (P.mov .g2) rfl <| .gyes rfl .g2 ?_
              obtain ⟨r99, hr100, hj75⟩ := bnd_eq hj75
              refine .opg (G.call call60 (.cons .t0 (.cons .k .nil)) (S_chain_Chain_Events_bx nilp none 0 r99 hr100) (.cons .k0 .nil) .nil (fun _ _ => rfl) (fun _ _ => rfl) rfl) rfl fun u101 _ => .gyes rfl .g2 <| .frz .k2 <| .frz .k1 ?_
              obtain ⟨r102, hr103, hj75⟩ := bnd_eq hj75
              refine .opg (G.call call61 (.cons .t1 (.cons .t0 .nil)) (S_supply_Fits r96 u98 u101 r99 r102 hr103) .nil (.cons Mm.m1 (.cons Mm.m0 .nil)) (fun _ _ => rfl) (fun _ _ => rfl) rfl) rfl fun _ _ => .opp (P.pickT .t1 .t0) rfl <| .opp (P.mov .t0) rfl <| .split .k0 (fun c104 => ?_) (fun c104 => ?_)
              · rw [if_pos c104] at hj75
                refine .gyes rfl .g0 <| .opp (P.mov .t1) rfl <| .gyes rfl .g1 ?_
                obtain ⟨r105, hr106, hj75⟩ := bnd_eq hj75
                refine .opg (G.call call62 (.cons .t0 .nil) (S_chain_Chain_State_bx nilp none r105 hr106) (.cons .k0 .nil) .nil (fun _ _ => rfl) (fun _ _ => rfl) rfl) rfl fun u107 _ => .gyes rfl .g1 <| .frz .k1 ?_
                obtain ⟨r108, hr109, hj75⟩ := bnd_eq hj75
                refine .opg (G.call call63 (.cons .t0 .nil) (S_supply_Whole r105 u107 r108 hr109) .nil (.cons Mm.m0 .nil) (fun _ _ => rfl) (fun _ _ => rfl) rfl) rfl fun _ _ => .opp (P.pickT .t1 .t0) rfl <| .opp (P.fa .g2 fa_38_6 rfl) rfl <| .opg (G.str .t1 .t0 .k1 (.mk (cs' := (driver_Report.cs ⟨r12, ⟨y20.1, (r92.length : Int)⟩, (r14.length : Int), 0, 0, true, r108⟩)) sizeOf4 rfl rfl rfl rfl)) rfl fun _ _ => .nil <| .inn ?_
                cases hj75
                exact .bxc world_World.bd world_World.fp (b79, u80, u81, u82, u83, u84, u85, u86, u87, u88, u89, u90) y77 (z := (pt b79 0)) rfl (.cons .k3 (.cons .k3 (.cons .k3 (.cons .k3 (.cons .k3 (.cons .k3 (.cons .k3 (.cons .k3 (.cons .k3 (.cons .k3 (.cons .k3 (.cons .k3 .nil)))))))))))) <| .conseq .k0 (q := bx world_World.bd world_World.fp (pt b79 0) r8.1) (fun _ h_ => by rw [hy78]; exact h_) <| .stj () (.cons Mm.m0 (.cons Mm.m1 (.cons Mm.m2 (.cons Mm.m3 .nil)))) (.of (.cons .k1 (.cons .k3 (.cons .k0 .nil)))) (.cons Mm.m3 .nil)
              · rw [if_neg (ne_true_of_eq_false c104)] at hj75
                refine .gno rfl .g0 rfl rfl <| .gno rfl .g0 rfl rfl <| .gno rfl .g0 rfl rfl <| .opp (P.pickF .t0 .k) rfl <| .opp (P.fa .g3 fa_38_6 rfl) rfl <| .opg (G.str .t1 .t0 .k1 (.mk (cs' := (driver_Report.cs ⟨r12, ⟨y20.1, (r92.length : Int)⟩, (r14.length : Int), 0, 0, true, false⟩)) sizeOf4 rfl rfl rfl rfl)) rfl fun _ _ => .nil <| .inn ?_
                cases hj75
                exact .bxc world_World.bd world_World.fp (b79, u80, u81, u82, u83, u84, u85, u86, u87, u88, u89, u90) y77 (z := (pt b79 0)) rfl (.cons .k3 (.cons .k3 (.cons .k3 (.cons .k3 (.cons .k3 (.cons .k3 (.cons .k3 (.cons .k3 (.cons .k3 (.cons .k3 (.cons .k3 (.cons .k3 .nil)))))))))))) <| .conseq .k0 (q := bx world_World.bd world_World.fp (pt b79 0) r8.1) (fun _ h_ => by rw [hy78]; exact h_) <| .stj () (.cons Mm.m1 (.cons Mm.m2 (.cons Mm.m3 (.cons Mm.m4 .nil)))) (.of (.cons .k1 (.cons .k3 (.cons .k0 .nil)))) (.cons Mm.m2 .nil)
            · rw [if_neg (ne_true_of_eq_false c95)] at hj75
              refine .gno rfl .g0 rfl rfl <| .gno rfl .g0 rfl rfl <| .gno rfl .g0 rfl rfl <| .gno rfl .g0 rfl rfl <| .gno rfl .g0 rfl rfl <| .opp (P.pickF .t0 .k) rfl <| .opp (P.mov .t0) rfl <| .gno rfl .g0 rfl rfl <| .gno rfl .g0 rfl rfl <| .gno rfl .g0 rfl rfl <| .opp (P.pickF .t0 .k) rfl <| .opp (P.fa .g3 fa_38_6 rfl) rfl ?_
              refine .opg (G.str .t1 .t0 .k0 (.mk (cs' := (driver_Report.cs ⟨r12, ⟨y20.1, (r92.length : Int)⟩, (r14.length : Int), 0, 0, true, false⟩)) sizeOf4 rfl rfl rfl rfl)) rfl fun _ _ => .nil <| .inn ?_
              cases hj75
              exact .bxc world_World.bd world_World.fp (b79, u80, u81, u82, u83, u84, u85, u86, u87, u88, u89, u90) y77 (z := (pt b79 0)) rfl (.cons .k3 (.cons .k3 (.cons .k3 (.cons .k3 (.cons .k3 (.cons .k3 (.cons .k3 (.cons .k3 (.cons .k3 (.cons .k3 (.cons .k3 (.cons .k3 .nil)))))))))))) <| .conseq .k0 (q := bx world_World.bd world_World.fp (pt b79 0) r8.1) (fun _ h_ => by rw [hy78]; exact h_) <| .stj () (.cons Mm.m1 (.cons Mm.m2 (.cons Mm.m3 (.cons Mm.m4 .nil)))) (.of (.cons .k1 (.cons .k3 (.cons .k0 .nil)))) (.cons Mm.m0 .nil)
          · rw [if_neg (ne_true_of_eq_false c91)] at hj75
            refine .pkV (u := u81) .k0 (by rw [pk, if_neg (of_decide_eq_false c91), pk]) <| .pkV (u := u81) .k2 (by rw [pk, if_neg (of_decide_eq_false c91), pk]) ?_
            obtain ⟨r110, hr111, hj75⟩ := bnd_eq hj75
            refine .opg (G.call call60 (.cons .t1 (.cons .k .nil)) (S_chain_Chain_Events_bx u81 y77.sides.a1 0 r110 hr111) (.cons .k2 .nil) .nil (fun _ _ => rfl) (fun _ _ => rfl) rfl) rfl fun u112 _ => .op (V.lnl (n := r110.length) .t0 .k1 map_len runUnderlying91) rfl <| .opp (P.fa .g4 fa_38_1 rfl) rfl <| .opp (P.iac (i := 1) .t3 rfl .t0 runUnderlying36 sizeOf3 rfl rfl) rfl <| .opg (G.str .t1 .t0 .k13 (.mk (cs' := (driver_Report.cs ⟨r12, ⟨y20.1, (r110.length : Int)⟩, (r14.length : Int), 0, 0, true, y20.2⟩)) sizeOf3 rfl rfl rfl rfl)) rfl fun _ _ => .nil <| .then <| .reg rfl <| .opp (P.fa .g2 fa_38_6 rfl) rfl <| .op (V.ld (v := Bo y20.2) .t0 .k0 (.one isAgg4 rfl)) rfl <| .opp (P.mov .t0) rfl <| .split .k0 (fun c113 => ?_) (fun c113 => ?_)
            · rw [if_pos c113] at hj75
              refine .gyes rfl .g0 <| .opp (P.mov .g1) rfl <| .gyes rfl .g1 ?_
              obtain ⟨r114, hr115, hj75⟩ := bnd_eq hj75
              refine .opg (G.call call62 (.cons .t0 .nil) (S_chain_Chain_State_bx u81 y77.sides.a1 r114 hr115) (.cons .k1 .nil) .nil (fun _ _ => rfl) (fun _ _ => rfl) rfl) rfl fun u116 _ => .gyes rfl .g1 <| .opp (P.mov .g2) rfl <| .gyes rfl .g2 ?_
              obtain ⟨r117, hr118, hj75⟩ := bnd_eq hj75
              refine .opg (G.call call60 (.cons .t0 (.cons .k .nil)) (S_chain_Chain_Events_bx u81 y77.sides.a1 0 r117 hr118) (.cons .k0 .nil) .nil (fun _ _ => rfl) (fun _ _ => rfl) rfl) rfl fun u119 _ => .gyes rfl .g2 <| .frz .k2 <| .frz .k1 ?_
              obtain ⟨r120, hr121, hj75⟩ := bnd_eq hj75
              refine .opg (G.call call61 (.cons .t1 (.cons .t0 .nil)) (S_supply_Fits r114 u116 u119 r117 r120 hr121) .nil (.cons Mm.m1 (.cons Mm.m0 .nil)) (fun _ _ => rfl) (fun _ _ => rfl) rfl) rfl fun _ _ => .opp (P.pickT .t1 .t0) rfl <| .opp (P.mov .t0) rfl <| .split .k0 (fun c122 => ?_) (fun c122 => ?_)
              · rw [if_pos c122] at hj75
                refine .gyes rfl .g0 <| .opp (P.mov .t1) rfl <| .gyes rfl .g1 ?_
                obtain ⟨r123, hr124, hj75⟩ := bnd_eq hj75
                refine .opg (G.call call62 (.cons .t0 .nil) (S_chain_Chain_State_bx u81 y77.sides.a1 r123 hr124) (.cons .k0 .nil) .nil (fun _ _ => rfl) (fun _ _ => rfl) rfl) rfl fun u125 _ => .gyes rfl .g1 <| .frz .k1 ?_
                obtain ⟨r126, hr127, hj75⟩ := bnd_eq hj75
                refine .opg (G.call call63 (.cons .t0 .nil) (S_supply_Whole r123 u125 r126 hr127) .nil (.cons Mm.m0 .nil) (fun _ _ => rfl) (fun _ _ => rfl) rfl) rfl fun _ _ => .opp (P.pickT .t1 .t0) rfl <| .opp (P.fa .g2 fa_38_6 rfl) rfl <| .opg (G.str .t1 .t0 .k1 (.mk (cs' := (driver_Report.cs ⟨r12, ⟨y20.1, (r110.length : Int)⟩, (r14.length : Int), 0, 0, true, r126⟩)) sizeOf4 rfl rfl rfl rfl)) rfl fun _ _ => .nil <| .inn ?_
                cases hj75
                exact .bxc world_World.bd world_World.fp (b79, u80, u81, u82, u83, u84, u85, u86, u87, u88, u89, u90) y77 (z := (pt b79 0)) rfl (.cons .k3 (.cons .k3 (.cons .k1 (.cons .k2 (.cons .k2 (.cons .k2 (.cons .k2 (.cons .k2 (.cons .k2 (.cons .k2 (.cons .k2 (.cons .k2 .nil)))))))))))) <| .conseq .k0 (q := bx world_World.bd world_World.fp (pt b79 0) r8.1) (fun _ h_ => by rw [hy78]; exact h_) <| .stj () (.cons Mm.m0 (.cons Mm.m1 (.cons Mm.m2 (.cons Mm.m3 .nil)))) (.of (.cons .k1 (.cons .k2 (.cons .k0 .nil)))) (.cons Mm.m3 .nil)
              · rw [if_neg (ne_true_of_eq_false c122)] at hj75
                refine .gno rfl .g0 rfl rfl <| .gno rfl .g0 rfl rfl <| .gno rfl .g0 rfl rfl <| .opp (P.pickF .t0 .k) rfl <| .opp (P.fa .g3 fa_38_6 rfl) rfl <| .opg (G.str .t1 .t0 .k1 (.mk (cs' := (driver_Report.cs ⟨r12, ⟨y20.1, (r110.length : Int)⟩, (r14.length : Int), 0, 0, true, false⟩)) sizeOf4 rfl rfl rfl rfl)) rfl fun _ _ => .nil <| .inn ?_
                cases hj75
                exact .bxc world_World.bd world_World.fp (b79, u80, u81, u82, u83, u84, u85, u86, u87, u88, u89, u90) y77 (z := (pt b79 0)) rfl (.cons .k3 (.cons .k3 (.cons .k1 (.cons .k2 (.cons .k2 (.cons .k2 (.cons .k2 (.cons .k2 (.cons .k2 (.cons .k2 (.cons .k2 (.cons .k2 .nil)))))))))))) <| .conseq .k0 (q := bx world_World.bd world_World.fp (pt b79 0) r8.1) (fun _ h_ => by rw [hy78]; exact h_) <| .stj () (.cons Mm.m1 (.cons Mm.m2 (.cons Mm.m3 (.cons Mm.m4 .nil)))) (.of (.cons .k1 (.cons .k2 (.cons .k0 .nil)))) (.cons Mm.m2 .nil)
            · rw [if_neg (ne_true_of_eq_false c113)] at hj75
              refine .gno rfl .g0 rfl rfl <| .gno rfl .g0 rfl rfl <| .gno rfl .g0 rfl rfl <| .gno rfl .g0 rfl rfl <| .gno rfl .g0 rfl rfl <| .opp (P.pickF .t0 .k) rfl <| .opp (P.mov .t0) rfl <| .gno rfl .g0 rfl rfl <| .gno rfl .g0 rfl rfl <| .gno rfl .g0 rfl rfl <| .opp (P.pickF .t0 .k) rfl <| .opp (P.fa .g3 fa_38_6 rfl) rfl ?_
              refine .opg (G.str .t1 .t0 .k0 (.mk (cs' := (driver_Report.cs ⟨r12, ⟨y20.1, (r110.length : Int)⟩, (r14.length : Int), 0, 0, true, false⟩)) sizeOf4 rfl rfl rfl rfl)) rfl fun _ _ => .nil <| .inn ?_
              cases hj75
              exact .bxc world_World.bd world_World.fp (b79, u80, u81, u82, u83, u84, u85, u86, u87, u88, u89, u90) y77 (z := (pt b79 0)) rfl (.cons .k3 (.cons .k3 (.cons .k1 (.cons .k2 (.cons .k2 (.cons .k2 (.cons .k2 (.cons .k2 (.cons .k2 (.cons .k2 (.cons .k2 (.cons .k2 .nil)))))))))))) <| .conseq .k0 (q := bx world_World.bd world_World.fp (pt b79 0) r8.1) (fun _ h_ => by rw [hy78]; exact h_) <| .stj () (.cons Mm.m1 (.cons Mm.m2 (.cons Mm.m3 (.cons Mm.m4 .nil)))) (.of (.cons .k1 (.cons .k2 (.cons .k0 .nil)))) (.cons Mm.m0 .nil)
        · clear hj75
          refine .reg rfl <| .opp (P.bin (v := N 2) .g0 .k (.addc (by decide))) rfl <| .drop .k1 <| .opp (P.mov .t0) rfl <| .nil <| .then <| .rd <| .seq <| .reg rfl <| .opp (P.bin (v := Bo false) .g0 .k (BinV.lss.boolc (by decide))) rfl <| .nil <| .then ?_
          refine .seq <| .condF .t0 <| .exit <| .thx <| .thx <| .inb <| .then <| .seq <| .seq <| .reg rfl <| .opp (P.mov .k) rfl <| .nil ?_
          refine .then <| .block <| .rounds 3 <| .rd <| .seq <| .reg rfl <| .opp (P.bin (v := Bo true) .g0 .k (BinV.lss.boolc (by decide))) rfl <| .nil <| .then <| .seq <| .condT .t0 <| .skip ?_
          refine .then <| .seq <| .block <| .seq <| .reg rfl <| .opp (P.mov .g0) rfl <| .opp (P.asg .t0) rfl <| .nil <| .then <| .seq <| .reg rfl <| .opp (P.mov .g4) rfl ?_
          refine .opp (P.mov .t1) rfl ?_
          obtain ⟨r128, hr129, h⟩ := bnd_eq h
          refine .opg (G.call call64 (.cons .t1 (.cons .t0 .nil)) (S_judge_User_bx u10 r8.1 0 r128 hr129) (.cons .k2 .nil) .nil (fun _ _ => rfl) (fun _ _ => rfl) rfl) rfl fun u130 _ => .opp (P.asg .t0) rfl <| .nil <| .then <| .seq <| .reg rfl <| .opp (P.fa .g3 fa_38_3 rfl) rfl <| .op (V.ld (v := N 0) .t0 .k2 (.one isAgg3 rfl)) rfl <| .opp (P.mov .g1) rfl <| .op (V.lnl (n := r128.length) .t0 .k1 map_len runUnderlying147) rfl <| .opp (P.bin .t1 .t0 .add) rfl <| .opp (P.fa .g4 fa_38_3 rfl) rfl ?_
          refine .opg (G.str .t1 .t0 .k2 (.mk (cs' := (driver_Report.cs ⟨r12, ⟨y20.1, y73.1⟩, (r14.length : Int), IntKind.i64.wrap (0 + (r128.length : Int)), 0, true, y73.2⟩)) sizeOf3 rfl rfl rfl rfl)) rfl fun _ _ => .nil <| .then <| .seq ?_
          obtain ⟨r131, hr132, h⟩ := bnd_eq h
          refine .dcut (γ := Unit) (φ := fun _ => True) (E1 := fun x_ => [(13, u130), (68, N 0), (9, pt b19 0), (8, u10), (4, pt b2 0)]) (L1 := fun x_ => [blk b19 38 (driver_Report.cs ⟨r12, ⟨y20.1, y73.1⟩, (r14.length : Int), IntKind.i64.wrap (0 + (r128.length : Int)), IntKind.i64.wrap (0 + r131), true, y73.2⟩), bx world_World.bd world_World.fp u10 r8.1, lst 226 4 u130 (r128.map judge_Verdict.cs), blk b2 38 (driver_Report.cs ⟨0, ⟨0, 0⟩, 0, 0, 0, false, false⟩)]) (R1 := fun x_ => [rows 1 v01 (a1.map (fun x => [B8 x]))]) ?_ (fun _ _ => ?_)
          · refine .draw 3 (.on 0 .pu (.on 2 .pu (.fk 1 3 (.on 3 .go (.on 4 .pu (.on 5 .pu (.on 6 .go .nl)))) (.on 1 .go (.on 4 .pu (.on 5 .pu (.on 6 .go .nl))))))) follows_mixed (.thn (.thn (.inb (.thn (.thn (.inb (.thn .body))))))) (by kernel_rfl) <| .dpu rfl (.n rfl) (P.fa .g3 fa_38_4 rfl) rfl rfl <| .dpu rfl (.n rfl) (P.mov .g1) rfl rfl <| .dfk ?_ ?_
            · exact .dgo rfl (.n rfl) (OpV.g (V.ld (v := N 0) .t1 .k0 (.one isAgg3 rfl)) rfl) (.inr fun _ _ _ h => h) fun _ _ => .dgo rfl (.n rfl) (G.calll call65 (.cons .t1 (.cons .k (.cons .k .nil))) (S_judge_Count u130 r128 2 2 r131 hr132) .nil (.imp (List.mem_append_right _ Mm.m2) (fun _ => lst_rows) .nil) (fun _ _ => rfl) rfl) (.inl rfl) fun _ _ => .dpu rfl (.n rfl) (P.bin .t1 .t0 .add) rfl rfl <| .dpu rfl (.n rfl) (P.fa .g4 fa_38_4 rfl) rfl rfl <| .dgo rfl (.n rfl) (G.str .t1 .t0 .k0 (.mk (cs' := (driver_Report.cs ⟨r12, ⟨y20.1, y73.1⟩, (r14.length : Int), IntKind.i64.wrap (0 + (r128.length : Int)), IntKind.i64.wrap (0 + r131), true, y73.2⟩)) sizeOf3 rfl rfl rfl rfl)) (.inl rfl) fun _ _ => .dnil <| .dst () trivial (.cons Mm.m0 (.cons Mm.m1 (.cons Mm.m3 (.cons Mm.m4 (.cons Mm.m5 .nil))))) (Ls.of (.cons .k0 (.cons .k0 (.cons .k0 (.cons .k0 .nil))))) (.cons Mm.m0 .nil)
            · exact .dgo rfl (.n rfl) (G.calll call65 (.cons .t0 (.cons .k (.cons .k .nil))) (S_judge_Count u130 r128 2 2 r131 hr132) .nil (.imp (List.mem_append_right _ Mm.m2) (fun _ => lst_rows) .nil) (fun _ _ => rfl) rfl) (.inl rfl) fun _ _ => .dgo rfl (.n rfl) (OpV.g (V.ld (v := N 0) .t1 .k0 (.one isAgg3 rfl)) rfl) (.inl rfl) fun _ _ => .dpu rfl (.n rfl) (P.bin .t0 .t0 .add) rfl rfl <| .dpu rfl (.n rfl) (P.fa .g4 fa_38_4 rfl) rfl rfl <| .dgo rfl (.n rfl) (G.str .t1 .t0 .k0 (.mk (cs' := (driver_Report.cs ⟨r12, ⟨y20.1, y73.1⟩, (r14.length : Int), IntKind.i64.wrap (0 + (r128.length : Int)), IntKind.i64.wrap (0 + r131), true, y73.2⟩)) sizeOf3 rfl rfl rfl rfl)) (.inl rfl) fun _ _ => .dnil <| .dst () trivial (.cons Mm.m0 (.cons Mm.m1 (.cons Mm.m3 (.cons Mm.m4 (.cons Mm.m5 .nil))))) (Ls.of (.cons .k0 (.cons .k0 (.cons .k0 (.cons .k0 .nil))))) (.cons Mm.m0 .nil)
          · refine .then <| .reg rfl <| .opp (P.fa .g2 fa_38_5 rfl) rfl <| .op (V.ld (v := Bo true) .t0 .k0 (.one isAgg4 rfl)) rfl <| .opp (P.mov .t0) rfl <| .gyes rfl .g0 <| .opp (P.mov .t1) rfl <| .gyes rfl .g1 <| .frz .k2 ?_
            obtain ⟨r133, hr134, h⟩ := bnd_eq h
            refine .opg (G.call call66 (.cons .t0 .nil) (S_judge_Well u130 r128 r133 hr134) .nil (.cons Mm.m0 .nil) (fun _ _ => rfl) (fun _ _ => rfl) rfl) rfl fun _ _ => .opp (P.pickT .t1 .t0) rfl <| .opp (P.fa .g2 fa_38_5 rfl) rfl <| .opg (G.str .t1 .t0 .k0 (.mk (cs' := (driver_Report.cs ⟨r12, ⟨y20.1, y73.1⟩, (r14.length : Int), IntKind.i64.wrap (0 + (r128.length : Int)), IntKind.i64.wrap (0 + r131), r133, y73.2⟩)) sizeOf4 rfl rfl rfl rfl)) rfl fun _ _ => .nil <| .inn <| .then <| .reg rfl <| .opp (P.bin (v := N 1) .g0 .k (.addc (by decide))) rfl <| .drop .k1 <| .opp (P.mov .t0) rfl <| .nil ?_
            refine .then <| .rd <| .seq <| .reg rfl <| .opp (P.bin (v := Bo true) .g0 .k (BinV.lss.boolc (by decide))) rfl <| .nil <| .then <| .seq <| .condT .t0 <| .skip <| .then ?_
            obtain ⟨y135, hj137, h⟩ := bnd_eq h
            refine .cutx (γ := Unit) (E1 := fun z136 => [(68, N 1), (9, pt b19 0), (8, u10), (4, pt b2 0)]) (L1 := fun z136 => [blk b19 38 (driver_Report.cs ⟨r12, ⟨y20.1, y73.1⟩, (r14.length : Int), y135.1, y135.2.1, y135.2.2, y73.2⟩), blk b2 38 (driver_Report.cs ⟨0, ⟨0, 0⟩, 0, 0, 0, false, false⟩), bx world_World.bd world_World.fp u10 r8.1]) (R1 := fun z136 => [rows 1 v01 (a1.map (fun x => [B8 x]))]) ?_ (fun z136 => ?_)
            · clear h
              refine .block <| .seq <| .reg rfl <| .opp (P.mov .g0) rfl <| .opp (P.asg .t0) rfl <| .nil <| .then <| .seq <| .reg rfl <| .opp (P.mov .g3) rfl <| .opp (P.mov .t1) rfl ?_
              obtain ⟨r138, hr139, hj137⟩ := bnd_eq hj137
              refine .opg (G.call call64 (.cons .t1 (.cons .t0 .nil)) (S_judge_User_bx u10 r8.1 1 r138 hr139) (.cons .k1 .nil) .nil (fun _ _ => rfl) (fun _ _ => rfl) rfl) rfl fun u140 _ => .opp (P.asg .t0) rfl <| .nil <| .then <| .seq <| .reg rfl <| .opp (P.fa .g2 fa_38_3 rfl) rfl <| .op (V.ld (v := N (IntKind.i64.wrap (0 + (r128.length : Int)))) .t0 .k2 (.one isAgg3 rfl)) rfl <| .opp (P.mov .g1) rfl <| .op (V.lnl (n := r138.length) .t0 .k1 map_len runUnderlying147) rfl <| .opp (P.bin .t1 .t0 .add) rfl <| .opp (P.fa .g3 fa_38_3 rfl) rfl ?_
              refine .opg (G.str .t1 .t0 .k2 (.mk (cs' := (driver_Report.cs ⟨r12, ⟨y20.1, y73.1⟩, (r14.length : Int), IntKind.i64.wrap ((IntKind.i64.wrap (0 + (r128.length : Int))) + (r138.length : Int)), IntKind.i64.wrap (0 + r131), r133, y73.2⟩)) sizeOf3 rfl rfl rfl rfl)) rfl fun _ _ => .nil <| .then <| .seq ?_
              obtain ⟨r141, hr142, hj137⟩ := bnd_eq hj137
              refine .dcut (γ := Unit) (φ := fun _ => True) (E1 := fun x_ => [(13, u140), (68, N 1), (9, pt b19 0), (8, u10), (4, pt b2 0)]) (L1 := fun x_ => [blk b19 38 (driver_Report.cs ⟨r12, ⟨y20.1, y73.1⟩, (r14.length : Int), IntKind.i64.wrap ((IntKind.i64.wrap (0 + (r128.length : Int))) + (r138.length : Int)), IntKind.i64.wrap ((IntKind.i64.wrap (0 + r131)) + r141), r133, y73.2⟩), bx world_World.bd world_World.fp u10 r8.1, lst 226 4 u140 (r138.map judge_Verdict.cs), blk b2 38 (driver_Report.cs ⟨0, ⟨0, 0⟩, 0, 0, 0, false, false⟩)]) (R1 := fun x_ => [rows 4 u130 (r128.map judge_Verdict.cs), rows 1 v01 (a1.map (fun x => [B8 x]))]) ?_ (fun _ _ => ?_)
              · refine .draw 3 (.on 0 .pu (.on 2 .pu (.fk 1 3 (.on 3 .go (.on 4 .pu (.on 5 .pu (.on 6 .go .nl)))) (.on 1 .go (.on 4 .pu (.on 5 .pu (.on 6 .go .nl))))))) follows_mixed (.thn (.thn (.inb (.thn (.thn (.inb (.thn .body))))))) (by kernel_rfl) <| .dpu rfl (.n rfl) (P.fa .g2 fa_38_4 rfl) rfl rfl <| .dpu rfl (.n rfl) (P.mov .g1) rfl rfl <| .dfk ?_ ?_
                · exact .dgo rfl (.n rfl) (OpV.g (V.ld (v := N (IntKind.i64.wrap (0 + r131))) .t1 .k0 (.one isAgg3 rfl)) rfl) (.inr fun _ _ _ h => h) fun _ _ => .dgo rfl (.n rfl) (G.calll call65 (.cons .t1 (.cons .k (.cons .k .nil))) (S_judge_Count u140 r138 2 2 r141 hr142) .nil (.imp (List.mem_append_right _ Mm.m2) (fun _ => lst_rows) .nil) (fun _ _ => rfl) rfl) (.inl rfl) fun _ _ => .dpu rfl (.n rfl) (P.bin .t1 .t0 .add) rfl rfl <| .dpu rfl (.n rfl) (P.fa .g3 fa_38_4 rfl) rfl rfl <| .dgo rfl (.n rfl) (G.str .t1 .t0 .k0 (.mk (cs' := (driver_Report.cs ⟨r12, ⟨y20.1, y73.1⟩, (r14.length : Int), IntKind.i64.wrap ((IntKind.i64.wrap (0 + (r128.length : Int))) + (r138.length : Int)), IntKind.i64.wrap ((IntKind.i64.wrap (0 + r131)) + r141), r133, y73.2⟩)) sizeOf3 rfl rfl rfl rfl)) (.inl rfl) fun _ _ => .dnil <| .dst () trivial (.cons Mm.m0 (.cons Mm.m1 (.cons Mm.m2 (.cons Mm.m3 (.cons Mm.m4 .nil))))) (Ls.of (.cons .k0 (.cons .k0 (.cons .k0 (.cons .k0 .nil))))) (.cons Mm.m0 (.cons Mm.m1 .nil))
                · exact .dgo rfl (.n rfl) (G.calll call65 (.cons .t0 (.cons .k (.cons .k .nil))) (S_judge_Count u140 r138 2 2 r141 hr142) .nil (.imp (List.mem_append_right _ Mm.m2) (fun _ => lst_rows) .nil) (fun _ _ => rfl) rfl) (.inl rfl) fun _ _ => .dgo rfl (.n rfl) (OpV.g (V.ld (v := N (IntKind.i64.wrap (0 + r131))) .t1 .k0 (.one isAgg3 rfl)) rfl) (.inl rfl) fun _ _ => .dpu rfl (.n rfl) (P.bin .t0 .t0 .add) rfl rfl <| .dpu rfl (.n rfl) (P.fa .g3 fa_38_4 rfl) rfl rfl <| .dgo rfl (.n rfl) (G.str .t1 .t0 .k0 (.mk (cs' := (driver_Report.cs ⟨r12, ⟨y20.1, y73.1⟩, (r14.length : Int), IntKind.i64.wrap ((IntKind.i64.wrap (0 + (r128.length : Int))) + (r138.length : Int)), IntKind.i64.wrap ((IntKind.i64.wrap (0 + r131)) + r141), r133, y73.2⟩)) sizeOf3 rfl rfl rfl rfl)) (.inl rfl) fun _ _ => .dnil <| .dst () trivial (.cons Mm.m0 (.cons Mm.m1 (.cons Mm.m2 (.cons Mm.m3 (.cons Mm.m4 .nil))))) (Ls.of (.cons .k0 (.cons .k0 (.cons .k0 (.cons .k0 .nil))))) (.cons Mm.m0 (.cons Mm.m1 .nil))
              · refine .then <| .reg rfl <| .opp (P.fa .g2 fa_38_5 rfl) rfl <| .op (V.ld (v := Bo r133) .t0 .k0 (.one isAgg4 rfl)) rfl <| .opp (P.mov .t0) rfl <| .split .k0 (fun c143 => ?_) (fun c143 => ?_)
                · rw [if_pos c143] at hj137
                  refine .gyes rfl .g0 <| .opp (P.mov .t1) rfl <| .gyes rfl .g1 <| .frz .k2 ?_
                  obtain ⟨r144, hr145, hj137⟩ := bnd_eq hj137
                  refine .opg (G.call call66 (.cons .t0 .nil) (S_judge_Well u140 r138 r144 hr145) .nil (.cons Mm.m0 .nil) (fun _ _ => rfl) (fun _ _ => rfl) rfl) rfl fun _ _ => .opp (P.pickT .t1 .t0) rfl <| .opp (P.fa .g2 fa_38_5 rfl) rfl <| .opg (G.str .t1 .t0 .k0 (.mk (cs' := (driver_Report.cs ⟨r12, ⟨y20.1, y73.1⟩, (r14.length : Int), IntKind.i64.wrap ((IntKind.i64.wrap (0 + (r128.length : Int))) + (r138.length : Int)), IntKind.i64.wrap ((IntKind.i64.wrap (0 + r131)) + r141), r144, y73.2⟩)) sizeOf4 rfl rfl rfl rfl)) rfl fun _ _ => .nil <| .inn ?_
                  cases hj137
                  exact .stj () (.cons Mm.m0 (.cons Mm.m1 (.cons Mm.m2 (.cons Mm.m3 .nil)))) (.of (.cons .k0 (.cons .k1 (.cons .k0 .nil)))) (.cons Mm.m2 .nil)
                · rw [if_neg (ne_true_of_eq_false c143)] at hj137
                  refine .gno rfl .g0 rfl rfl <| .gno rfl .g0 rfl rfl <| .opp (P.pickF .t0 .k) rfl <| .opp (P.fa .g3 fa_38_5 rfl) rfl <| .opg (G.str .t1 .t0 .k0 (.mk (cs' := (driver_Report.cs ⟨r12, ⟨y20.1, y73.1⟩, (r14.length : Int), IntKind.i64.wrap ((IntKind.i64.wrap (0 + (r128.length : Int))) + (r138.length : Int)), IntKind.i64.wrap ((IntKind.i64.wrap (0 + r131)) + r141), false, y73.2⟩)) sizeOf4 rfl rfl rfl rfl)) rfl fun _ _ => .nil <| .inn ?_
                  cases hj137
                  exact .stj () (.cons Mm.m1 (.cons Mm.m2 (.cons Mm.m3 (.cons Mm.m4 .nil)))) (.of (.cons .k0 (.cons .k2 (.cons .k0 .nil)))) (.cons Mm.m1 .nil)
            · clear hj137
              refine .reg rfl <| .opp (P.bin (v := N 2) .g0 .k (.addc (by decide))) rfl <| .drop .k1 <| .opp (P.mov .t0) rfl <| .nil <| .then <| .rd <| .seq <| .reg rfl <| .opp (P.bin (v := Bo false) .g0 .k (BinV.lss.boolc (by decide))) rfl <| .nil <| .then ?_
              refine .seq <| .condF .t0 <| .exit <| .thx <| .thx <| .inb <| .then <| .seq <| .seq <| .reg rfl <| .opp (P.mov .k) rfl <| .nil ?_
              refine .then <| .block <| .rounds 3 <| .rd <| .seq <| .reg rfl <| .opp (P.bin (v := Bo true) .g0 .k (BinV.lss.boolc (by decide))) rfl <| .nil <| .then <| .seq <| .condT .t0 <| .skip ?_
              refine .then ?_
              obtain ⟨y146, hj148, h⟩ := bnd_eq h
              refine .cutx (γ := Unit) (E1 := fun z147 => [(94, N 0), (9, pt b19 0), (8, u10), (4, pt b2 0)]) (L1 := fun z147 => [blk b19 38 (driver_Report.cs ⟨r12, ⟨y20.1, y73.1⟩, (r14.length : Int), y135.1, y135.2.1, y146, y73.2⟩), blk b2 38 (driver_Report.cs ⟨0, ⟨0, 0⟩, 0, 0, 0, false, false⟩), bx world_World.bd world_World.fp u10 r8.1]) (R1 := fun z147 => [rows 1 v01 (a1.map (fun x => [B8 x]))]) ?_ (fun z147 => ?_)
              · clear h
                refine .block <| .seq <| .reg rfl <| .opp (P.mov .g0) rfl <| .opp (P.asg .t0) rfl <| .nil <| .then <| .reg rfl <| .opp (P.fa .g3 fa_38_5 rfl) rfl <| .op (V.ld (v := Bo y135.2.2) .t0 .k0 (.one isAgg4 rfl)) rfl <| .opp (P.mov .t0) rfl <| .split .k0 (fun c149 => ?_) (fun c149 => ?_)
                · rw [if_pos c149] at hj148
                  refine .gyes rfl .g0 <| .opp (P.mov .g5) rfl <| .gyes rfl .g1 <| .opp (P.mov .t2) rfl <| .gyes rfl .g2 <| .opp (P.bin (v := N 2) .k .t0 (.addc (by decide))) rfl <| .gyes rfl .g2 ?_
                  obtain ⟨r150, hr151, hj148⟩ := bnd_eq hj148
                  refine .opg (G.call call67 (.cons .t1 (.cons .t0 .nil)) (S_judge_Router_bx u10 r8.1 2 r150 hr151) (.cons .k2 .nil) .nil (fun _ _ => rfl) (fun _ _ => rfl) rfl) rfl fun u152 _ => .gyes rfl .g1 <| .frz .k1 ?_
                  obtain ⟨r153, hr154, hj148⟩ := bnd_eq hj148
                  refine .opg (G.call call66 (.cons .t0 .nil) (S_judge_Well u152 r150 r153 hr154) .nil (.cons Mm.m0 .nil) (fun _ _ => rfl) (fun _ _ => rfl) rfl) rfl fun _ _ => .opp (P.pickT .t1 .t0) rfl <| .opp (P.fa .g3 fa_38_5 rfl) rfl <| .opg (G.str .t1 .t0 .k1 (.mk (cs' := (driver_Report.cs ⟨r12, ⟨y20.1, y73.1⟩, (r14.length : Int), y135.1, y135.2.1, r153, y73.2⟩)) sizeOf4 rfl rfl rfl rfl)) rfl fun _ _ => .nil <| .inn ?_
                  cases hj148
                  exact .stj () (.cons Mm.m0 (.cons Mm.m2 (.cons Mm.m3 (.cons Mm.m4 .nil)))) (.of (.cons .k0 (.cons .k1 (.cons .k0 .nil)))) (.cons Mm.m1 .nil)
                · rw [if_neg (ne_true_of_eq_false c149)] at hj148
                  refine .gno rfl .g0 rfl rfl <| .gno rfl .g0 rfl rfl <| .gno rfl .g0 rfl rfl <| .gno rfl .g0 rfl rfl <| .gno rfl .g0 rfl rfl <| .opp (P.pickF .t0 .k) rfl <| .opp (P.fa .g4 fa_38_5 rfl) rfl <| .opg (G.str .t1 .t0 .k0 (.mk (cs' := (driver_Report.cs ⟨r12, ⟨y20.1, y73.1⟩, (r14.length : Int), y135.1, y135.2.1, false, y73.2⟩)) sizeOf4 rfl rfl rfl rfl)) rfl fun _ _ => .nil <| .inn ?_
                  cases hj148
                  exact .stj () (.cons Mm.m1 (.cons Mm.m3 (.cons Mm.m4 (.cons Mm.m5 .nil)))) (.of (.cons .k0 (.cons .k0 (.cons .k0 .nil)))) (.cons Mm.m0 .nil)
              · clear hj148
                refine .reg rfl <| .opp (P.bin (v := N 1) .g0 .k (.addc (by decide))) rfl <| .drop .k1 <| .opp (P.mov .t0) rfl <| .nil <| .then <| .rd <| .seq <| .reg rfl <| .opp (P.bin (v := Bo true) .g0 .k (BinV.lss.boolc (by decide))) rfl <| .nil <| .then ?_
                refine .seq <| .condT .t0 <| .skip <| .then ?_
                obtain ⟨y155, hj157, h⟩ := bnd_eq h
                refine .cutx (γ := Unit) (E1 := fun z156 => [(94, N 1), (9, pt b19 0), (8, u10), (4, pt b2 0)]) (L1 := fun z156 => [blk b19 38 (driver_Report.cs ⟨r12, ⟨y20.1, y73.1⟩, (r14.length : Int), y135.1, y135.2.1, y155, y73.2⟩), blk b2 38 (driver_Report.cs ⟨0, ⟨0, 0⟩, 0, 0, 0, false, false⟩), bx world_World.bd world_World.fp u10 r8.1]) (R1 := fun z156 => [rows 1 v01 (a1.map (fun x => [B8 x]))]) ?_ (fun z156 => ?_)
                · clear h
                  refine .block <| .seq <| .reg rfl <| .opp (P.mov .g0) rfl <| .opp (P.asg .t0) rfl <| .nil <| .then <| .reg rfl <| .opp (P.fa .g2 fa_38_5 rfl) rfl <| .op (V.ld (v := Bo y146) .t0 .k0 (.one isAgg4 rfl)) rfl <| .opp (P.mov .t0) rfl <| .split .k0 (fun c158 => ?_) (fun c158 => ?_)
                  · rw [if_pos c158] at hj157
                    refine .gyes rfl .g0 <| .opp (P.mov .g4) rfl <| .gyes rfl .g1 <| .opp (P.mov .t2) rfl <| .gyes rfl .g2 <| .opp (P.bin (v := N 3) .k .t0 (.addc (by decide))) rfl <| .gyes rfl .g2 ?_
                    obtain ⟨r159, hr160, hj157⟩ := bnd_eq hj157
                    refine .opg (G.call call67 (.cons .t1 (.cons .t0 .nil)) (S_judge_Router_bx u10 r8.1 3 r159 hr160) (.cons .k2 .nil) .nil (fun _ _ => rfl) (fun _ _ => rfl) rfl) rfl fun u161 _ => .gyes rfl .g1 <| .frz .k1 ?_
                    obtain ⟨r162, hr163, hj157⟩ := bnd_eq hj157
                    refine .opg (G.call call66 (.cons .t0 .nil) (S_judge_Well u161 r159 r162 hr163) .nil (.cons Mm.m0 .nil) (fun _ _ => rfl) (fun _ _ => rfl) rfl) rfl fun _ _ => .opp (P.pickT .t1 .t0) rfl <| .opp (P.fa .g2 fa_38_5 rfl) rfl <| .opg (G.str .t1 .t0 .k1 (.mk (cs' := (driver_Report.cs ⟨r12, ⟨y20.1, y73.1⟩, (r14.length : Int), y135.1, y135.2.1, r162, y73.2⟩)) sizeOf4 rfl rfl rfl rfl)) rfl fun _ _ => .nil <| .inn ?_
                    cases hj157
                    exact .stj () (.cons Mm.m0 (.cons Mm.m1 (.cons Mm.m2 (.cons Mm.m3 .nil)))) (.of (.cons .k0 (.cons .k1 (.cons .k0 .nil)))) (.cons Mm.m1 .nil)
                  · rw [if_neg (ne_true_of_eq_false c158)] at hj157
                    refine .gno rfl .g0 rfl rfl <| .gno rfl .g0 rfl rfl <| .gno rfl .g0 rfl rfl <| .gno rfl .g0 rfl rfl <| .gno rfl .g0 rfl rfl <| .opp (P.pickF .t0 .k) rfl <| .opp (P.fa .g3 fa_38_5 rfl) rfl <| .opg (G.str .t1 .t0 .k0 (.mk (cs' := (driver_Report.cs ⟨r12, ⟨y20.1, y73.1⟩, (r14.length : Int), y135.1, y135.2.1, false, y73.2⟩)) sizeOf4 rfl rfl rfl rfl)) rfl fun _ _ => .nil <| .inn ?_
                    cases hj157
                    exact .stj () (.cons Mm.m1 (.cons Mm.m2 (.cons Mm.m3 (.cons Mm.m4 .nil)))) (.of (.cons .k0 (.cons .k0 (.cons .k0 .nil)))) (.cons Mm.m0 .nil)
                · clear hj157
                  refine .reg rfl <| .opp (P.bin (v := N 2) .g0 .k (.addc (by decide))) rfl <| .drop .k1 <| .opp (P.mov .t0) rfl <| .nil <| .then <| .rd <| .seq <| .reg rfl <| .opp (P.bin (v := Bo false) .g0 .k (BinV.lss.boolc (by decide))) rfl <| .nil <| .then ?_
                  refine .seq <| .condF .t0 <| .exit <| .thx <| .thx <| .inb <| .then <| .seq <| .reg rfl <| .op (V.ld (v := Ag (driver_Report.cs ⟨r12, ⟨y20.1, y73.1⟩, (r14.length : Int), y135.1, y135.2.1, y155, y73.2⟩)) .t1 .k0 (.agg isAgg38 sizeOf38 rfl rfl)) rfl <| .opg (G.str .t0 .g2 .k1 (.mk (cs' := (driver_Report.cs ⟨r12, ⟨y20.1, y73.1⟩, (r14.length : Int), y135.1, y135.2.1, y155, y73.2⟩)) sizeOf38 rfl rfl rfl rfl)) rfl fun _ _ => .opp (P.asg .k) rfl ?_
                  refine .nil <| .then <| .ret ?_
                  cases h
                  exact .finw () (.r2 rfl (.cell .g3 .k0 (.agg isAgg38 sizeOf38 rfl rfl)) (.tmp .g0)) trivial (Ls.of .nil) .nil
attribute [irreducible] driver_Main
noncomputable def narrowslaw34_alive  : Option (Bool) :=
  Option.bind (driver_Main (⟨1, 0, 31, 0⟩ : world_Setup) ([] : List UInt8)) fun r1 => Option.bind (if (decide (r1.2 = 0)) = true then (if r1.1.Well = true then (if r1.1.Solvent = true then (Option.bind (driver_Line r1.1) fun r10 => some (decide (r10 = ⟨#[48, 32, 48, 32, 48, 32, 48, 32, 48, 32, 48, 32, 121, 101, 115, 32, 121, 101, 115]⟩))) else (some false)) else (some false)) else (some false)) fun (y4 : Bool) => some y4
set_option maxRecDepth 20000 in
set_option maxHeartbeats 8000000 in
theorem S_narrowslaw34_alive  (r : Bool) (h : narrowslaw34_alive  = some r) :
    SpecF Tryz.prog 13 [] [] [] (fun z : Unit => True) (fun z => Bo r) (fun z M =>  M) (fun z M =>  M) := by
  refine .of func13 rfl ntmps13 rfl fun w0 D0 G0 => ?_
  unfold narrowslaw34_alive at h
  refine .seq <| .reg rfl <| .op0 (OpP.toV (P.asg .k)) rfl <| .nil <| .then <| .seq <| .reg rfl <| .opp (P.bld (v := Ag (world_Setup.cs ⟨1, 0, 31, 0⟩)) (.cons .k (.cons .k .nil)) (bld_run zeroValue23 runUnderlying23 pl_23 (by kernel_rfl))) rfl <| .rnil0 1 ?_
  obtain ⟨r1, hr2, h⟩ := bnd_eq h
  refine .opg (G.call call31 (.cons .t0 (.cons .k .nil)) (S_driver_Main (⟨1, 0, 31, 0⟩ : world_Setup) nilSl ([] : List UInt8) r1 hr2) .nil (.cons Mm.m0 .nil) (fun _ _ => rfl) (fun _ _ => rfl) rfl) rfl fun _ _ => .opp (P.mov .t0) rfl <| .opp (P.ext (v := Ag (driver_Report.cs r1.1)) .g0 rfl) rfl <| .opp (P.ext (v := N r1.2) .t1 rfl) rfl <| .opx (X.alc (cs := (driver_Report.cs ⟨0, ⟨0, 0⟩, 0, 0, 0, false, false⟩)) zeroValue38 rfl) rfl fun b3 => .opg (G.str .t2 .g0 .k0 (.mk (cs' := (driver_Report.cs r1.1)) sizeOf38 rfl rfl rfl rfl)) rfl fun _ _ => .opp (P.asg .t1) rfl <| .nil <| .then ?_
  obtain ⟨y4, hj6, h⟩ := bnd_eq h
  refine .cutx (γ := Unit) (E1 := fun z5 => [(0, Bo y4)]) (L1 := fun z5 => []) (R1 := fun z5 => []) ?_ (fun z5 => ?_)
  · clear h
    refine .reg rfl <| .opp (P.mov .t0) rfl <| .opp (P.bin .t0 .k .eql) rfl <| .opp (P.mov .t0) rfl <| .split .k0 (fun c7 => ?_) (fun c7 => ?_)
    · rw [if_pos c7] at hj6
      refine .gyes rfl .g0 <| .opp (P.fa .g1 fa_38_5 rfl) rfl <| .gyes rfl .g1 <| .op (V.ld (v := Bo r1.1.Well) .t0 .k0 (.one isAgg4 rfl)) rfl <| .opp (P.pickT .t1 .t0) rfl <| .opp (P.mov .t0) rfl <| .split .k0 (fun c8 => ?_) (fun c8 => ?_)
      · rw [if_pos c8] at hj6
        refine .gyes rfl .g0 <| .opp (P.fa .g1 fa_38_6 rfl) rfl <| .gyes rfl .g1 <| .op (V.ld (v := Bo r1.1.Solvent) .t0 .k0 (.one isAgg4 rfl)) rfl <| .opp (P.pickT .t1 .t0) rfl <| .opp (P.mov .t0) rfl <| .split .k0 (fun c9 => ?_) (fun c9 => ?_)
        · rw [if_pos c9] at hj6
          refine .gyes rfl .g0 <| .op (V.ld (v := Ag (driver_Report.cs r1.1)) .t1 .k0 (.agg isAgg38 sizeOf38 rfl rfl)) rfl <| .gyes rfl .g1 ?_
          obtain ⟨r10, hr11, hj6⟩ := bnd_eq hj6
          refine .opg (G.call call12 (.cons .t0 .nil) (S_driver_Line r1.1 r10 hr11) .nil .nil (fun _ _ => rfl) (fun _ _ => rfl) rfl) rfl fun _ _ => .gyes rfl .g1 <| .opp (P.bin .t0 .k .str_eql) rfl <| .opp (P.pickT .t1 .t0) rfl <| .opp (P.asg .t0) rfl <| .nil ?_
          cases hj6
          exact .stj () (.cons Mm.m0 .nil) (.of .nil) .nil
        · rw [if_neg (ne_true_of_eq_false c9)] at hj6
          refine .gno rfl .g0 rfl rfl <| .gno rfl .g0 rfl rfl <| .gno rfl .g0 rfl rfl <| .opp (P.pickF .t0 .k) rfl <| .opp (P.asg .t0) rfl <| .nil ?_
          cases hj6
          exact .stj () (.cons Mm.m0 .nil) (.of .nil) .nil
      · rw [if_neg (ne_true_of_eq_false c8)] at hj6
        refine .gno rfl .g0 rfl rfl <| .gno rfl .g0 rfl rfl <| .opp (P.pickF .t0 .k) rfl <| .opp (P.mov .t0) rfl <| .gno rfl .g0 rfl rfl <| .gno rfl .g0 rfl rfl <| .gno rfl .g0 rfl rfl <| .opp (P.pickF .t0 .k) rfl <| .opp (P.asg .t0) rfl <| .nil ?_
        cases hj6
        exact .stj () (.cons Mm.m0 .nil) (.of .nil) .nil
    · rw [if_neg (ne_true_of_eq_false c7)] at hj6
      refine .gno rfl .g0 rfl rfl <| .gno rfl .g0 rfl rfl <| .opp (P.pickF .t0 .k) rfl <| .opp (P.mov .t0) rfl <| .gno rfl .g0 rfl rfl <| .gno rfl .g0 rfl rfl <| .opp (P.pickF .t0 .k) rfl <| .opp (P.mov .t0) rfl <| .gno rfl .g0 rfl rfl <| .gno rfl .g0 rfl rfl <| .gno rfl .g0 rfl rfl <| .opp (P.pickF .t0 .k) rfl ?_
      refine .opp (P.asg .t0) rfl <| .nil ?_
      cases hj6
      exact .stj () (.cons Mm.m0 .nil) (.of .nil) .nil
  · clear hj6
    refine .ret ?_
    cases h
    exact .finw () (.r1 rfl (.tmp .g0)) trivial (Ls.of .nil) .nil
attribute [irreducible] narrowslaw34_alive
noncomputable def narrowslaw34_DriverLines (a0 : driver_Report) : Option (Bool) :=
  Option.bind (narrowslaw34_decimal a0.Now) fun r6 => grd ((⟨#[]⟩ : ByteArray).size + r6.size ≤ 9223372036854775807) <| grd (((⟨#[]⟩ : ByteArray) ++ r6 : ByteArray).size + (⟨#[32]⟩ : ByteArray).size ≤ 9223372036854775807) <| Option.bind (narrowslaw34_decimal a0.Events.a0) fun r13 => grd ((((⟨#[]⟩ : ByteArray) ++ r6 : ByteArray) ++ (⟨#[32]⟩ : ByteArray)).size + r13.size ≤ 9223372036854775807) <| grd (((((⟨#[]⟩ : ByteArray) ++ r6 : ByteArray) ++ (⟨#[32]⟩ : ByteArray)) ++ r13).size + (⟨#[32]⟩ : ByteArray).size ≤ 9223372036854775807) <| Option.bind (narrowslaw34_decimal a0.Events.a1) fun r20 => grd ((((((⟨#[]⟩ : ByteArray) ++ r6 : ByteArray) ++ (⟨#[32]⟩ : ByteArray)) ++ r13) ++ (⟨#[32]⟩ : ByteArray)).size + r20.size ≤ 9223372036854775807) <| grd (((((((⟨#[]⟩ : ByteArray) ++ r6 : ByteArray) ++ (⟨#[32]⟩ : ByteArray)) ++ r13) ++ (⟨#[32]⟩ : ByteArray)) ++ r20).size + (⟨#[32]⟩ : ByteArray).size ≤ 9223372036854775807) <| Option.bind (narrowslaw34_decimal a0.Mail) fun r27 => grd ((((((((⟨#[]⟩ : ByteArray) ++ r6 : ByteArray) ++ (⟨#[32]⟩ : ByteArray)) ++ r13) ++ (⟨#[32]⟩ : ByteArray)) ++ r20) ++ (⟨#[32]⟩ : ByteArray)).size + r27.size ≤ 9223372036854775807) <| grd (((((((((⟨#[]⟩ : ByteArray) ++ r6 : ByteArray) ++ (⟨#[32]⟩ : ByteArray)) ++ r13) ++ (⟨#[32]⟩ : ByteArray)) ++ r20) ++ (⟨#[32]⟩ : ByteArray)) ++ r27).size + (⟨#[32]⟩ : ByteArray).size ≤ 9223372036854775807) <| Option.bind (narrowslaw34_decimal a0.Prepared) fun r34 => grd ((((((((((⟨#[]⟩ : ByteArray) ++ r6 : ByteArray) ++ (⟨#[32]⟩ : ByteArray)) ++ r13) ++ (⟨#[32]⟩ : ByteArray)) ++ r20) ++ (⟨#[32]⟩ : ByteArray)) ++ r27) ++ (⟨#[32]⟩ : ByteArray)).size + r34.size ≤ 9223372036854775807) <| grd (((((((((((⟨#[]⟩ : ByteArray) ++ r6 : ByteArray) ++ (⟨#[32]⟩ : ByteArray)) ++ r13) ++ (⟨#[32]⟩ : ByteArray)) ++ r20) ++ (⟨#[32]⟩ : ByteArray)) ++ r27) ++ (⟨#[32]⟩ : ByteArray)) ++ r34).size + (⟨#[32]⟩ : ByteArray).size ≤ 9223372036854775807) <| Option.bind (narrowslaw34_decimal a0.Done) fun r41 => grd ((((((((((((⟨#[]⟩ : ByteArray) ++ r6 : ByteArray) ++ (⟨#[32]⟩ : ByteArray)) ++ r13) ++ (⟨#[32]⟩ : ByteArray)) ++ r20) ++ (⟨#[32]⟩ : ByteArray)) ++ r27) ++ (⟨#[32]⟩ : ByteArray)) ++ r34) ++ (⟨#[32]⟩ : ByteArray)).size + r41.size ≤ 9223372036854775807) <| grd (((((((((((((⟨#[]⟩ : ByteArray) ++ r6 : ByteArray) ++ (⟨#[32]⟩ : ByteArray)) ++ r13) ++ (⟨#[32]⟩ : ByteArray)) ++ r20) ++ (⟨#[32]⟩ : ByteArray)) ++ r27) ++ (⟨#[32]⟩ : ByteArray)) ++ r34) ++ (⟨#[32]⟩ : ByteArray)) ++ r41).size + (⟨#[32]⟩ : ByteArray).size ≤ 9223372036854775807) <| Option.bind (if a0.Well = true then (grd ((((((((((((((⟨#[]⟩ : ByteArray) ++ r6 : ByteArray) ++ (⟨#[32]⟩ : ByteArray)) ++ r13) ++ (⟨#[32]⟩ : ByteArray)) ++ r20) ++ (⟨#[32]⟩ : ByteArray)) ++ r27) ++ (⟨#[32]⟩ : ByteArray)) ++ r34) ++ (⟨#[32]⟩ : ByteArray)) ++ r41) ++ (⟨#[32]⟩ : ByteArray)).size + (⟨#[121, 101, 115, 32]⟩ : ByteArray).size ≤ 9223372036854775807) <| some ((((((((((((((⟨#[]⟩ : ByteArray) ++ r6 : ByteArray) ++ (⟨#[32]⟩ : ByteArray)) ++ r13) ++ (⟨#[32]⟩ : ByteArray)) ++ r20) ++ (⟨#[32]⟩ : ByteArray)) ++ r27) ++ (⟨#[32]⟩ : ByteArray)) ++ r34) ++ (⟨#[32]⟩ : ByteArray)) ++ r41) ++ (⟨#[32]⟩ : ByteArray)) ++ (⟨#[121, 101, 115, 32]⟩ : ByteArray))) else (grd ((((((((((((((⟨#[]⟩ : ByteArray) ++ r6 : ByteArray) ++ (⟨#[32]⟩ : ByteArray)) ++ r13) ++ (⟨#[32]⟩ : ByteArray)) ++ r20) ++ (⟨#[32]⟩ : ByteArray)) ++ r27) ++ (⟨#[32]⟩ : ByteArray)) ++ r34) ++ (⟨#[32]⟩ : ByteArray)) ++ r41) ++ (⟨#[32]⟩ : ByteArray)).size + (⟨#[110, 111, 32]⟩ : ByteArray).size ≤ 9223372036854775807) <| some ((((((((((((((⟨#[]⟩ : ByteArray) ++ r6 : ByteArray) ++ (⟨#[32]⟩ : ByteArray)) ++ r13) ++ (⟨#[32]⟩ : ByteArray)) ++ r20) ++ (⟨#[32]⟩ : ByteArray)) ++ r27) ++ (⟨#[32]⟩ : ByteArray)) ++ r34) ++ (⟨#[32]⟩ : ByteArray)) ++ r41) ++ (⟨#[32]⟩ : ByteArray)) ++ (⟨#[110, 111, 32]⟩ : ByteArray)))) fun (y46 : ByteArray) => Option.bind (if a0.Solvent = true then (grd (y46.size + (⟨#[121, 101, 115, 32]⟩ : ByteArray).size ≤ 9223372036854775807) <| some (y46 ++ (⟨#[121, 101, 115, 32]⟩ : ByteArray))) else (grd (y46.size + (⟨#[110, 111, 32]⟩ : ByteArray).size ≤ 9223372036854775807) <| some (y46 ++ (⟨#[110, 111, 32]⟩ : ByteArray)))) fun (y55 : ByteArray) => Option.bind (Option.bind (driver_Line a0) fun r67 => grd (r67.size + (⟨#[32]⟩ : ByteArray).size ≤ 9223372036854775807) <| if (decide ((r67 ++ (⟨#[32]⟩ : ByteArray)) = y55)) = true then (Option.bind (narrowslaw34_alive) fun r71 => some r71) else (some false)) fun (y64 : Bool) => some y64
set_option maxRecDepth 20000 in
set_option maxHeartbeats 8000000 in
theorem S_narrowslaw34_DriverLines (a0 : driver_Report) (r : Bool) (h : narrowslaw34_DriverLines a0 = some r) :
    SpecF Tryz.prog 4 [Ag (driver_Report.cs a0)] [] [] (fun z : Unit => True) (fun z => Bo r) (fun z M =>  M) (fun z M =>  M) := by
  refine .of func4 rfl ntmps4 rfl fun w0 D0 G0 => ?_
  unfold narrowslaw34_DriverLines at h
  refine .seq <| .reg rfl <| .opx (X.box (cs := (driver_Report.cs a0)) .t0 rfl) rfl fun b1 => .op0 (OpP.toV (P.asg .k)) rfl <| .nil <| .then <| .seq <| .reg rfl <| .opp (P.fa .g0 fa_38_0 rfl) rfl <| .op (V.ld (v := N a0.Now) .t0 .k0 (.one isAgg3 rfl)) rfl <| .opp (P.fa .g1 fa_38_1 rfl) rfl <| .opp (P.iac (i := 0) .k rfl .t0 runUnderlying36 sizeOf3 rfl rfl) rfl ?_
  refine .op (V.ld (v := N a0.Events.a0) .t0 .k0 (.one isAgg3 rfl)) rfl <| .opp (P.fa .g2 fa_38_1 rfl) rfl <| .opp (P.iac (i := 1) .k rfl .t0 runUnderlying36 sizeOf3 rfl rfl) rfl <| .op (V.ld (v := N a0.Events.a1) .t0 .k0 (.one isAgg3 rfl)) rfl <| .opp (P.fa .g3 fa_38_2 rfl) rfl <| .op (V.ld (v := N a0.Mail) .t0 .k0 (.one isAgg3 rfl)) rfl <| .opp (P.fa .g4 fa_38_3 rfl) rfl <| .op (V.ld (v := N a0.Prepared) .t0 .k0 (.one isAgg3 rfl)) rfl <| .opp (P.fa .g5 fa_38_4 rfl) rfl <| .op (V.ld (v := N a0.Done) .t0 .k0 (.one isAgg3 rfl)) rfl <| .opg (G.bsln (xs := [[N a0.Now], [N a0.Events.a0], [N a0.Events.a1], [N a0.Mail], [N a0.Prepared], [N a0.Done]]) (.cons .t5 (.cons .t4 (.cons .t3 (.cons .t2 (.cons .t1 (.cons .t0 .nil)))))) runUnderlying39 sizeOf3 zeroValue3 (by kernel_rfl) rfl rfl rfl rfl rfl) rfl fun u2 _ => .opp (P.asg .t0) rfl ?_
  refine .nil <| .then <| .seq <| .reg rfl <| .opp (P.asg .k) rfl <| .nil <| .then <| .seq <| .seq <| .reg rfl <| .opp (P.asg .k) rfl <| .nil ?_
  refine .then <| .block <| .rounds 7 <| .rd <| .seq <| .seq <| .reg rfl <| .opp (P.mov .g0) rfl <| .opp (P.bin (v := Bo true) .t0 .k (BinV.lss.boolc (by decide))) rfl <| .nil <| .then <| .condT .t0 ?_
  refine .skip <| .then <| .seq <| .block <| .reg rfl <| .opp (P.mov .g1) rfl <| .opp (P.mov .g3) rfl <| .opp (P.mov .g2) rfl <| .ixql .k0 (show [[N a0.Now], [N a0.Events.a0], [N a0.Events.a1], [N a0.Mail], [N a0.Prepared], [N a0.Done]][0]? = some [N a0.Now] from rfl) fun p3 q4 hq5 => .opp (P.ixi (i := 0) .t0 rfl .t0 hq5 runUnderlying39 sizeOf3) rfl <| .op (V.ldxl0 (u := N a0.Now) .t0 hq5 .k0 (show [[N a0.Now], [N a0.Events.a0], [N a0.Events.a1], [N a0.Mail], [N a0.Prepared], [N a0.Done]][0]? = some [N a0.Now] from rfl) (.one isAgg3 rfl)) rfl ?_
  obtain ⟨r6, hr7, h⟩ := bnd_eq h
  refine .opg (G.call call11 (.cons .t0 .nil) (S_narrowslaw34_decimal a0.Now r6 hr7) .nil .nil (fun _ _ => rfl) (fun _ _ => rfl) rfl) rfl fun _ _ => ?_
  obtain ⟨hb8, h⟩ := grd_eq h
  refine .opp (P.bin .t1 .t0 (.str_add hb8)) rfl ?_
  obtain ⟨hb9, h⟩ := grd_eq h
  refine .opp (P.bin .t0 .k (.str_add hb9)) rfl <| .drop .k2 <| .opp (P.asg .t0) rfl <| .nil <| .inn <| .then <| .reg rfl <| .opp (P.mov .g1) rfl <| .opp (P.bin (v := N 1) .t0 .k (.addc (by decide))) rfl <| .drop .k2 <| .opp (P.asg .t0) rfl <| .nil ?_
  refine .then <| .rd <| .seq <| .seq <| .reg rfl <| .opp (P.mov .g0) rfl <| .opp (P.bin (v := Bo true) .t0 .k (BinV.lss.boolc (by decide))) rfl <| .nil <| .then <| .condT .t0 <| .skip <| .then ?_
  refine .seq <| .block <| .reg rfl <| .opp (P.mov .g1) rfl <| .opp (P.mov .g3) rfl <| .opp (P.mov .g2) rfl <| .ixql .k0 (show [[N a0.Now], [N a0.Events.a0], [N a0.Events.a1], [N a0.Mail], [N a0.Prepared], [N a0.Done]][1]? = some [N a0.Events.a0] from rfl) fun p10 q11 hq12 => .opp (P.ixi (i := 1) .t0 rfl .t0 hq12 runUnderlying39 sizeOf3) rfl <| .op (V.ldxl0 (u := N a0.Events.a0) .t0 hq12 .k0 (show [[N a0.Now], [N a0.Events.a0], [N a0.Events.a1], [N a0.Mail], [N a0.Prepared], [N a0.Done]][1]? = some [N a0.Events.a0] from rfl) (.one isAgg3 rfl)) rfl ?_
  obtain ⟨r13, hr14, h⟩ := bnd_eq h
  refine .opg (G.call call11 (.cons .t0 .nil) (S_narrowslaw34_decimal a0.Events.a0 r13 hr14) .nil .nil (fun _ _ => rfl) (fun _ _ => rfl) rfl) rfl fun _ _ => ?_
  obtain ⟨hb15, h⟩ := grd_eq h
  refine .opp (P.bin .t1 .t0 (.str_add hb15)) rfl ?_
  obtain ⟨hb16, h⟩ := grd_eq h
  refine .opp (P.bin .t0 .k (.str_add hb16)) rfl <| .drop .k2 <| .opp (P.asg .t0) rfl <| .nil <| .inn <| .then <| .reg rfl <| .opp (P.mov .g1) rfl <| .opp (P.bin (v := N 2) .t0 .k (.addc (by decide))) rfl <| .drop .k2 <| .opp (P.asg .t0) rfl <| .nil ?_
  refine .then <| .rd <| .seq <| .seq <| .reg rfl <| .opp (P.mov .g0) rfl <| .opp (P.bin (v := Bo true) .t0 .k (BinV.lss.boolc (by decide))) rfl <| .nil <| .then <| .condT .t0 <| .skip <| .then ?_
  refine .seq <| .block <| .reg rfl <| .opp (P.mov .g1) rfl <| .opp (P.mov .g3) rfl <| .opp (P.mov .g2) rfl <| .ixql .k0 (show [[N a0.Now], [N a0.Events.a0], [N a0.Events.a1], [N a0.Mail], [N a0.Prepared], [N a0.Done]][2]? = some [N a0.Events.a1] from rfl) fun p17 q18 hq19 => .opp (P.ixi (i := 2) .t0 rfl .t0 hq19 runUnderlying39 sizeOf3) rfl <| .op (V.ldxl0 (u := N a0.Events.a1) .t0 hq19 .k0 (show [[N a0.Now], [N a0.Events.a0], [N a0.Events.a1], [N a0.Mail], [N a0.Prepared], [N a0.Done]][2]? = some [N a0.Events.a1] from rfl) (.one isAgg3 rfl)) rfl ?_
  obtain ⟨r20, hr21, h⟩ := bnd_eq h
  refine .opg (G.call call11 (.cons .t0 .nil) (S_narrowslaw34_decimal a0.Events.a1 r20 hr21) .nil .nil (fun _ _ => rfl) (fun _ _ => rfl) rfl) rfl fun _ _ => ?_
  obtain ⟨hb22, h⟩ := grd_eq h
  refine .opp (P.bin .t1 .t0 (.str_add hb22)) rfl ?_
  obtain ⟨hb23, h⟩ := grd_eq h
  refine .opp (P.bin .t0 .k (.str_add hb23)) rfl <| .drop .k2 <| .opp (P.asg .t0) rfl <| .nil <| .inn <| .then <| .reg rfl <| .opp (P.mov .g1) rfl <| .opp (P.bin (v := N 3) .t0 .k (.addc (by decide))) rfl <| .drop .k2 <| .opp (P.asg .t0) rfl <| .nil ?_
  refine .then <| .rd <| .seq <| .seq <| .reg rfl <| .opp (P.mov .g0) rfl <| .opp (P.bin (v := Bo true) .t0 .k (BinV.lss.boolc (by decide))) rfl <| .nil <| .then <| .condT .t0 <| .skip <| .then ?_
  refine .seq <| .block <| .reg rfl <| .opp (P.mov .g1) rfl <| .opp (P.mov .g3) rfl <| .opp (P.mov .g2) rfl <| .ixql .k0 (show [[N a0.Now], [N a0.Events.a0], [N a0.Events.a1], [N a0.Mail], [N a0.Prepared], [N a0.Done]][3]? = some [N a0.Mail] from rfl) fun p24 q25 hq26 => .opp (P.ixi (i := 3) .t0 rfl .t0 hq26 runUnderlying39 sizeOf3) rfl <| .op (V.ldxl0 (u := N a0.Mail) .t0 hq26 .k0 (show [[N a0.Now], [N a0.Events.a0], [N a0.Events.a1], [N a0.Mail], [N a0.Prepared], [N a0.Done]][3]? = some [N a0.Mail] from rfl) (.one isAgg3 rfl)) rfl ?_
  obtain ⟨r27, hr28, h⟩ := bnd_eq h
  refine .opg (G.call call11 (.cons .t0 .nil) (S_narrowslaw34_decimal a0.Mail r27 hr28) .nil .nil (fun _ _ => rfl) (fun _ _ => rfl) rfl) rfl fun _ _ => ?_
  obtain ⟨hb29, h⟩ := grd_eq h
  refine .opp (P.bin .t1 .t0 (.str_add hb29)) rfl ?_
  obtain ⟨hb30, h⟩ := grd_eq h
  refine .opp (P.bin .t0 .k (.str_add hb30)) rfl <| .drop .k2 <| .opp (P.asg .t0) rfl <| .nil <| .inn <| .then <| .reg rfl <| .opp (P.mov .g1) rfl <| .opp (P.bin (v := N 4) .t0 .k (.addc (by decide))) rfl <| .drop .k2 <| .opp (P.asg .t0) rfl <| .nil ?_
  refine .then <| .rd <| .seq <| .seq <| .reg rfl <| .opp (P.mov .g0) rfl <| .opp (P.bin (v := Bo true) .t0 .k (BinV.lss.boolc (by decide))) rfl <| .nil <| .then <| .condT .t0 <| .skip <| .then ?_
  refine .seq <| .block <| .reg rfl <| .opp (P.mov .g1) rfl <| .opp (P.mov .g3) rfl <| .opp (P.mov .g2) rfl <| .ixql .k0 (show [[N a0.Now], [N a0.Events.a0], [N a0.Events.a1], [N a0.Mail], [N a0.Prepared], [N a0.Done]][4]? = some [N a0.Prepared] from rfl) fun p31 q32 hq33 => .opp (P.ixi (i := 4) .t0 rfl .t0 hq33 runUnderlying39 sizeOf3) rfl <| .op (V.ldxl0 (u := N a0.Prepared) .t0 hq33 .k0 (show [[N a0.Now], [N a0.Events.a0], [N a0.Events.a1], [N a0.Mail], [N a0.Prepared], [N a0.Done]][4]? = some [N a0.Prepared] from rfl) (.one isAgg3 rfl)) rfl ?_
  obtain ⟨r34, hr35, h⟩ := bnd_eq h
  refine .opg (G.call call11 (.cons .t0 .nil) (S_narrowslaw34_decimal a0.Prepared r34 hr35) .nil .nil (fun _ _ => rfl) (fun _ _ => rfl) rfl) rfl fun _ _ => ?_
  obtain ⟨hb36, h⟩ := grd_eq h
  refine .opp (P.bin .t1 .t0 (.str_add hb36)) rfl ?_
  obtain ⟨hb37, h⟩ := grd_eq h
  refine .opp (P.bin .t0 .k (.str_add hb37)) rfl <| .drop .k2 <| .opp (P.asg .t0) rfl <| .nil <| .inn <| .then <| .reg rfl <| .opp (P.mov .g1) rfl <| .opp (P.bin (v := N 5) .t0 .k (.addc (by decide))) rfl <| .drop .k2 <| .opp (P.asg .t0) rfl <| .nil ?_
  refine .then <| .rd <| .seq <| .seq <| .reg rfl <| .opp (P.mov .g0) rfl <| .opp (P.bin (v := Bo true) .t0 .k (BinV.lss.boolc (by decide))) rfl <| .nil <| .then <| .condT .t0 <| .skip <| .then ?_
  refine .seq <| .block <| .reg rfl <| .opp (P.mov .g1) rfl <| .opp (P.mov .g3) rfl <| .opp (P.mov .g2) rfl <| .ixql .k0 (show [[N a0.Now], [N a0.Events.a0], [N a0.Events.a1], [N a0.Mail], [N a0.Prepared], [N a0.Done]][5]? = some [N a0.Done] from rfl) fun p38 q39 hq40 => .opp (P.ixi (i := 5) .t0 rfl .t0 hq40 runUnderlying39 sizeOf3) rfl <| .op (V.ldxl0 (u := N a0.Done) .t0 hq40 .k0 (show [[N a0.Now], [N a0.Events.a0], [N a0.Events.a1], [N a0.Mail], [N a0.Prepared], [N a0.Done]][5]? = some [N a0.Done] from rfl) (.one isAgg3 rfl)) rfl ?_
  obtain ⟨r41, hr42, h⟩ := bnd_eq h
  refine .opg (G.call call11 (.cons .t0 .nil) (S_narrowslaw34_decimal a0.Done r41 hr42) .nil .nil (fun _ _ => rfl) (fun _ _ => rfl) rfl) rfl fun _ _ => ?_
  obtain ⟨hb43, h⟩ := grd_eq h
  refine .opp (P.bin .t1 .t0 (.str_add hb43)) rfl ?_
  obtain ⟨hb44, h⟩ := grd_eq h
  refine .opp (P.bin .t0 .k (.str_add hb44)) rfl <| .drop .k2 <| .opp (P.asg .t0) rfl <| .nil <| .inn <| .then <| .reg rfl <| .opp (P.mov .g1) rfl <| .opp (P.bin (v := N 6) .t0 .k (.addc (by decide))) rfl <| .drop .k2 <| .opp (P.asg .t0) rfl <| .nil ?_
  refine .then <| .rd <| .seq <| .seq <| .reg rfl <| .opp (P.mov .g0) rfl <| .opp (P.bin (v := Bo false) .t0 .k (BinV.lss.boolc (by decide))) rfl <| .nil <| .then <| .condF .t0 <| .exit <| .thx ?_
  refine .thx <| .inb <| .then <| .seq <| .reg rfl <| .opp (P.fa .g3 fa_38_5 rfl) rfl <| .op (V.ld (v := Bo a0.Well) .t0 .k1 (.one isAgg4 rfl)) rfl <| .opp (P.fa .g4 fa_38_6 rfl) rfl <| .op (V.ld (v := Bo a0.Solvent) .t0 .k1 (.one isAgg4 rfl)) rfl <| .opg (G.bsln (xs := [[Bo a0.Well], [Bo a0.Solvent]]) (.cons .t1 (.cons .t0 .nil)) runUnderlying41 sizeOf4 zeroValue4 (by kernel_rfl) rfl rfl rfl rfl rfl) rfl fun u45 _ => .opp (P.asg .t0) rfl <| .nil ?_
  refine .then <| .seq <| .seq <| .reg rfl <| .opp (P.asg .k) rfl <| .nil <| .then <| .block <| .rounds 3 <| .rd <| .seq <| .seq ?_
  refine .reg rfl <| .opp (P.mov .g0) rfl <| .opp (P.bin (v := Bo true) .t0 .k (BinV.lss.boolc (by decide))) rfl <| .nil <| .then <| .condT .t0 <| .skip <| .then ?_
  obtain ⟨y46, hj48, h⟩ := bnd_eq h
  refine .cutx (γ := Unit) (E1 := fun z47 => [(4, .string y46), (7, N 0), (6, u45), (1, pt b1 0)]) (L1 := fun z47 => [blk b1 38 (driver_Report.cs a0), lst 4 1 u45 [[Bo a0.Well], [Bo a0.Solvent]]]) (R1 := fun z47 => []) ?_ (fun z47 => ?_)
  · clear h
    refine .block <| .seq <| .reg rfl <| .opp (P.mov .g1) rfl <| .opp (P.mov .g1) rfl <| .ixql .k0 (show [[Bo a0.Well], [Bo a0.Solvent]][0]? = some [Bo a0.Well] from rfl) fun p49 q50 hq51 => .opp (P.ixi (i := 0) .t0 rfl .t0 hq51 runUnderlying41 sizeOf4) rfl <| .op (V.ldxl0 (u := Bo a0.Well) .t0 hq51 .k0 (show [[Bo a0.Well], [Bo a0.Solvent]][0]? = some [Bo a0.Well] from rfl) (.one isAgg4 rfl)) rfl <| .nil <| .then <| .cond .t0 (fun c52 => ?_) (fun c52 => ?_)
    · rw [if_pos c52] at hj48
      refine .reg rfl <| .opp (P.mov .g3) rfl ?_
      obtain ⟨hb53, hj48⟩ := grd_eq hj48
      refine .opp (P.bin .t0 .k (.str_add hb53)) rfl <| .drop .k4 <| .opp (P.asg .t0) rfl <| .nil <| .inn ?_
      cases hj48
      exact .stj () (.cons Mm.m0 (.cons Mm.m1 (.cons Mm.m2 (.cons Mm.m5 .nil)))) (.of (.cons .k2 (.cons .k0 .nil))) .nil
    · rw [if_neg (ne_true_of_eq_false c52)] at hj48
      refine .reg rfl <| .opp (P.mov .g3) rfl ?_
      obtain ⟨hb54, hj48⟩ := grd_eq hj48
      refine .opp (P.bin .t0 .k (.str_add hb54)) rfl <| .drop .k4 <| .opp (P.asg .t0) rfl <| .nil <| .inn ?_
      cases hj48
      exact .stj () (.cons Mm.m0 (.cons Mm.m1 (.cons Mm.m2 (.cons Mm.m5 .nil)))) (.of (.cons .k2 (.cons .k0 .nil))) .nil
  · clear hj48
    refine .reg rfl <| .opp (P.mov .g1) rfl <| .opp (P.bin (v := N 1) .t0 .k (.addc (by decide))) rfl <| .drop .k2 <| .opp (P.asg .t0) rfl <| .nil <| .then <| .rd <| .seq <| .seq <| .reg rfl <| .opp (P.mov .g0) rfl ?_
    refine .opp (P.bin (v := Bo true) .t0 .k (BinV.lss.boolc (by decide))) rfl <| .nil <| .then <| .condT .t0 <| .skip <| .then ?_
    obtain ⟨y55, hj57, h⟩ := bnd_eq h
    refine .cutx (γ := Unit) (E1 := fun z56 => [(4, .string y55), (7, N 1), (6, u45), (1, pt b1 0)]) (L1 := fun z56 => [blk b1 38 (driver_Report.cs a0), lst 4 1 u45 [[Bo a0.Well], [Bo a0.Solvent]]]) (R1 := fun z56 => []) ?_ (fun z56 => ?_)
    · clear h
      refine .block <| .seq <| .reg rfl <| .opp (P.mov .g2) rfl <| .opp (P.mov .g1) rfl <| .ixql .k1 (show [[Bo a0.Well], [Bo a0.Solvent]][1]? = some [Bo a0.Solvent] from rfl) fun p58 q59 hq60 => .opp (P.ixi (i := 1) .t0 rfl .t0 hq60 runUnderlying41 sizeOf4) rfl <| .op (V.ldxl0 (u := Bo a0.Solvent) .t0 hq60 .k1 (show [[Bo a0.Well], [Bo a0.Solvent]][1]? = some [Bo a0.Solvent] from rfl) (.one isAgg4 rfl)) rfl <| .nil <| .then <| .cond .t0 (fun c61 => ?_) (fun c61 => ?_)
      · rw [if_pos c61] at hj57
        refine .reg rfl <| .opp (P.mov .g1) rfl ?_
        obtain ⟨hb62, hj57⟩ := grd_eq hj57
        refine .opp (P.bin .t0 .k (.str_add hb62)) rfl <| .drop .k2 <| .opp (P.asg .t0) rfl <| .nil <| .inn ?_
        cases hj57
        exact .stj () (.cons Mm.m0 (.cons Mm.m1 (.cons Mm.m2 (.cons Mm.m3 .nil)))) (.of (.cons .k0 (.cons .k0 .nil))) .nil
      · rw [if_neg (ne_true_of_eq_false c61)] at hj57
        refine .reg rfl <| .opp (P.mov .g1) rfl ?_
        obtain ⟨hb63, hj57⟩ := grd_eq hj57
        refine .opp (P.bin .t0 .k (.str_add hb63)) rfl <| .drop .k2 <| .opp (P.asg .t0) rfl <| .nil <| .inn ?_
        cases hj57
        exact .stj () (.cons Mm.m0 (.cons Mm.m1 (.cons Mm.m2 (.cons Mm.m3 .nil)))) (.of (.cons .k0 (.cons .k0 .nil))) .nil
    · clear hj57
      refine .reg rfl <| .opp (P.mov .g1) rfl <| .opp (P.bin (v := N 2) .t0 .k (.addc (by decide))) rfl <| .drop .k2 <| .opp (P.asg .t0) rfl <| .nil <| .then <| .rd <| .seq <| .seq <| .reg rfl <| .opp (P.mov .g0) rfl ?_
      refine .opp (P.bin (v := Bo false) .t0 .k (BinV.lss.boolc (by decide))) rfl <| .nil <| .then <| .condF .t0 <| .exit <| .thx <| .thx <| .inb <| .then ?_
      obtain ⟨y64, hj66, h⟩ := bnd_eq h
      refine .cutx (γ := Unit) (E1 := fun z65 => [(2, Bo y64)]) (L1 := fun z65 => []) (R1 := fun z65 => []) ?_ (fun z65 => ?_)
      · clear h
        refine .reg rfl <| .op (V.ld (v := Ag (driver_Report.cs a0)) .t3 .k0 (.agg isAgg38 sizeOf38 rfl rfl)) rfl ?_
        obtain ⟨r67, hr68, hj66⟩ := bnd_eq hj66
        refine .opg (G.call call12 (.cons .t0 .nil) (S_driver_Line a0 r67 hr68) .nil .nil (fun _ _ => rfl) (fun _ _ => rfl) rfl) rfl fun _ _ => ?_
        obtain ⟨hb69, hj66⟩ := grd_eq hj66
        refine .opp (P.bin .t0 .k (.str_add hb69)) rfl <| .opp (P.mov .t2) rfl <| .opp (P.bin .t1 .t0 .str_eql) rfl <| .opp (P.mov .t0) rfl <| .split .k0 (fun c70 => ?_) (fun c70 => ?_)
        · rw [if_pos c70] at hj66
          refine .gyes rfl .g0 ?_
          obtain ⟨r71, hr72, hj66⟩ := bnd_eq hj66
          refine .opg (G.call call13 .nil (S_narrowslaw34_alive  r71 hr72) .nil .nil (fun _ _ => rfl) (fun _ _ => rfl) rfl) rfl fun _ _ => .opp (P.pickT .t1 .t0) rfl <| .opp (P.asg .t0) rfl <| .nil ?_
          cases hj66
          exact .stj () (.cons Mm.m0 .nil) (.of .nil) .nil
        · rw [if_neg (ne_true_of_eq_false c70)] at hj66
          refine .gno rfl .g0 rfl rfl <| .opp (P.pickF .t0 .k) rfl <| .opp (P.asg .t0) rfl <| .nil ?_
          cases hj66
          exact .stj () (.cons Mm.m0 .nil) (.of .nil) .nil
      · clear hj66
        refine .ret ?_
        cases h
        exact .finw () (.r1 rfl (.tmp .g0)) trivial (Ls.of .nil) .nil
attribute [irreducible] narrowslaw34_DriverLines
end Go.Sl
