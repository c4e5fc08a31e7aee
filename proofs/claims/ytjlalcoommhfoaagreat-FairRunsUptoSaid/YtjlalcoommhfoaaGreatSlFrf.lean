/- Walked code of the program, its pure functions and their contracts. -/
import Derived.Test.YtjlalcoommhfoaaGreatSlFre
set_option linter.unusedVariables false
set_option linter.unusedSimpArgs false
namespace Go.Sl
open Go.Proofs Go.Proofs.Tryz
theorem fa_58_5 : FaV Tryz.prog 58 5 11 := .mk runUnderlying58 rfl sizeOf54 rfl rfl
theorem fa_72_2 : FaV Tryz.prog 72 2 2 := .mk runUnderlying72 rfl sizeOf3 rfl rfl
theorem fa_72_3 : FaV Tryz.prog 72 3 3 := .mk runUnderlying72 rfl sizeOf3 rfl rfl
theorem fa_72_4 : FaV Tryz.prog 72 4 4 := .mk runUnderlying72 rfl sizeOf70 rfl rfl
noncomputable def world_World_look_bx (a0 : Option world_World) (a1 : Int) : Option ((Option world_World)) :=
  Option.bind a0 fun (y2 : world_World) => Option.bind (Option.bind (world_World_client y2 a1) fun r19 => if (decide (r19 = 0)) = true then (Option.bind (client_Client_Down_bx none) fun r22 => if (!r22) = true then (Option.bind (at_ (A4_i64.list y2.seen) a1) fun (x25 : Int) => Option.bind (client_Client_Look_bx_bx_bx none y2.sides.a0 y2.sides.a1) fun r29 => if (decide (0 < (r29.1.length : Int))) = true then (Option.bind (at_ r29.1 0) fun (x37 : api_Message) => none) else (if (decide (0 < (r29.2.1.length : Int))) = true then (Option.bind (at_ r29.2.1 0) fun (x50 : api_Send) => none) else (Option.bind (world_World_send (⟨y2.setup, y2.sides, y2.clients, y2.routers, y2.relay, y2.mail, y2.now, A4_i64.set y2.seen (a1).toNat y2.now, y2.late, y2.since, y2.told, y2.keys, y2.digests, y2.asked, y2.forged, y2.clash⟩ : world_World) a1 r29.2.1) fun r59 => Option.bind (at_ (A4_bool.list y2.late) a1) fun (x61 : Bool) => if x61 = true then (Option.bind (at_ (A4_bool.list y2.late) a1) fun (x66 : Bool) => some ⟨y2.setup, y2.sides, y2.clients, y2.routers, y2.relay, y2.mail, y2.now, A4_i64.set y2.seen (a1).toNat y2.now, A4_bool.set y2.late (a1).toNat true, y2.since, y2.told, y2.keys, y2.digests, y2.asked, y2.forged, y2.clash⟩) else (Option.bind (client_Client_Down_bx none) fun r70 => Option.bind (at_ (A4_bool.list y2.late) a1) fun (x72 : Bool) => some ⟨y2.setup, y2.sides, y2.clients, y2.routers, y2.relay, y2.mail, y2.now, A4_i64.set y2.seen (a1).toNat y2.now, A4_bool.set y2.late (a1).toNat r70, y2.since, y2.told, y2.keys, y2.digests, y2.asked, y2.forged, y2.clash⟩)))) else (some y2)) else (if (decide (r19 = 1)) = true then (Option.bind (client_Client_Down_bx y2.clients.a0) fun r77 => if (!r77) = true then (Option.bind (at_ (A4_i64.list y2.seen) a1) fun (x80 : Int) => Option.bind (client_Client_Look_bx_bx_bx y2.clients.a0 y2.sides.a0 y2.sides.a1) fun r84 => if (decide (0 < (r84.1.length : Int))) = true then (Option.bind (at_ r84.1 0) fun (x92 : api_Message) => none) else (if (decide (0 < (r84.2.1.length : Int))) = true then (Option.bind (at_ r84.2.1 0) fun (x105 : api_Send) => none) else (Option.bind (world_World_send (⟨y2.setup, y2.sides, ⟨r84.2.2, y2.clients.a1⟩, y2.routers, y2.relay, y2.mail, y2.now, A4_i64.set y2.seen (a1).toNat y2.now, y2.late, y2.since, y2.told, y2.keys, y2.digests, y2.asked, y2.forged, y2.clash⟩ : world_World) a1 r84.2.1) fun r114 => Option.bind (at_ (A4_bool.list y2.late) a1) fun (x116 : Bool) => if x116 = true then (Option.bind (at_ (A4_bool.list y2.late) a1) fun (x121 : Bool) => some (⟨y2.setup, y2.sides, ⟨r84.2.2, y2.clients.a1⟩, y2.routers, y2.relay, y2.mail, y2.now, A4_i64.set y2.seen (a1).toNat y2.now, A4_bool.set y2.late (a1).toNat true, y2.since, y2.told, y2.keys, y2.digests, y2.asked, y2.forged, y2.clash⟩)) else (Option.bind (client_Client_Down_bx r84.2.2) fun r125 => Option.bind (at_ (A4_bool.list y2.late) a1) fun (x127 : Bool) => some (⟨y2.setup, y2.sides, ⟨r84.2.2, y2.clients.a1⟩, y2.routers, y2.relay, y2.mail, y2.now, A4_i64.set y2.seen (a1).toNat y2.now, A4_bool.set y2.late (a1).toNat r125, y2.since, y2.told, y2.keys, y2.digests, y2.asked, y2.forged, y2.clash⟩))))) else (some y2)) else (Option.bind (client_Client_Down_bx y2.clients.a1) fun r131 => if (!r131) = true then (Option.bind (at_ (A4_i64.list y2.seen) a1) fun (x134 : Int) => Option.bind (client_Client_Look_bx_bx_bx y2.clients.a1 y2.sides.a0 y2.sides.a1) fun r138 => if (decide (0 < (r138.1.length : Int))) = true then (Option.bind (at_ r138.1 0) fun (x146 : api_Message) => none) else (if (decide (0 < (r138.2.1.length : Int))) = true then (Option.bind (at_ r138.2.1 0) fun (x159 : api_Send) => none) else (Option.bind (world_World_send (⟨y2.setup, y2.sides, ⟨y2.clients.a0, r138.2.2⟩, y2.routers, y2.relay, y2.mail, y2.now, A4_i64.set y2.seen (a1).toNat y2.now, y2.late, y2.since, y2.told, y2.keys, y2.digests, y2.asked, y2.forged, y2.clash⟩ : world_World) a1 r138.2.1) fun r168 => Option.bind (at_ (A4_bool.list y2.late) a1) fun (x170 : Bool) => if x170 = true then (Option.bind (at_ (A4_bool.list y2.late) a1) fun (x175 : Bool) => some (⟨y2.setup, y2.sides, ⟨y2.clients.a0, r138.2.2⟩, y2.routers, y2.relay, y2.mail, y2.now, A4_i64.set y2.seen (a1).toNat y2.now, A4_bool.set y2.late (a1).toNat true, y2.since, y2.told, y2.keys, y2.digests, y2.asked, y2.forged, y2.clash⟩)) else (Option.bind (client_Client_Down_bx r138.2.2) fun r179 => Option.bind (at_ (A4_bool.list y2.late) a1) fun (x181 : Bool) => some (⟨y2.setup, y2.sides, ⟨y2.clients.a0, r138.2.2⟩, y2.routers, y2.relay, y2.mail, y2.now, A4_i64.set y2.seen (a1).toNat y2.now, A4_bool.set y2.late (a1).toNat r179, y2.since, y2.told, y2.keys, y2.digests, y2.asked, y2.forged, y2.clash⟩))))) else (some y2)))) fun (y16 : world_World) => Option.bind (Option.bind (world_World_router y16 a1) fun r188 => if (decide (r188 = 0)) = true then (Option.bind (router_Router_Down_bx none) fun r191 => if (!r191) = true then (Option.bind (at_ (A4_i64.list y16.seen) a1) fun (x194 : Int) => Option.bind (router_Router_Look_bx_bx_bx none y16.sides.a0 y16.sides.a1) fun r198 => if (decide (0 < (r198.1.length : Int))) = true then (Option.bind (at_ r198.1 0) fun (x206 : api_Message) => none) else (Option.bind (world_World_send (⟨y16.setup, y16.sides, y16.clients, y16.routers, y16.relay, y16.mail, y16.now, A4_i64.set y16.seen (a1).toNat y16.now, y16.late, y16.since, y16.told, y16.keys, y16.digests, y16.asked, y16.forged, y16.clash⟩ : world_World) a1 r198.2.1) fun r211 => Option.bind (at_ (A4_bool.list y16.late) a1) fun (x213 : Bool) => if x213 = true then (Option.bind (at_ (A4_bool.list y16.late) a1) fun (x218 : Bool) => some ⟨y16.setup, y16.sides, y16.clients, y16.routers, y16.relay, y16.mail, y16.now, A4_i64.set y16.seen (a1).toNat y16.now, A4_bool.set y16.late (a1).toNat true, y16.since, y16.told, y16.keys, y16.digests, y16.asked, y16.forged, y16.clash⟩) else (Option.bind (router_Router_Down_bx none) fun r222 => Option.bind (at_ (A4_bool.list y16.late) a1) fun (x224 : Bool) => some ⟨y16.setup, y16.sides, y16.clients, y16.routers, y16.relay, y16.mail, y16.now, A4_i64.set y16.seen (a1).toNat y16.now, A4_bool.set y16.late (a1).toNat r222, y16.since, y16.told, y16.keys, y16.digests, y16.asked, y16.forged, y16.clash⟩))) else (some y16)) else (if (decide (r188 = 1)) = true then (Option.bind (router_Router_Down_bx y16.routers.a0) fun r229 => if (!r229) = true then (Option.bind (at_ (A4_i64.list y16.seen) a1) fun (x232 : Int) => Option.bind (router_Router_Look_bx_bx_bx y16.routers.a0 y16.sides.a0 y16.sides.a1) fun r236 => if (decide (0 < (r236.1.length : Int))) = true then (Option.bind (at_ r236.1 0) fun (x244 : api_Message) => none) else (Option.bind (world_World_send (⟨y16.setup, y16.sides, y16.clients, ⟨r236.2.2, y16.routers.a1⟩, y16.relay, y16.mail, y16.now, A4_i64.set y16.seen (a1).toNat y16.now, y16.late, y16.since, y16.told, y16.keys, y16.digests, y16.asked, y16.forged, y16.clash⟩ : world_World) a1 r236.2.1) fun r249 => Option.bind (at_ (A4_bool.list y16.late) a1) fun (x251 : Bool) => if x251 = true then (Option.bind (at_ (A4_bool.list y16.late) a1) fun (x256 : Bool) => some (⟨y16.setup, y16.sides, y16.clients, ⟨r236.2.2, y16.routers.a1⟩, y16.relay, y16.mail, y16.now, A4_i64.set y16.seen (a1).toNat y16.now, A4_bool.set y16.late (a1).toNat true, y16.since, y16.told, y16.keys, y16.digests, y16.asked, y16.forged, y16.clash⟩)) else (Option.bind (router_Router_Down_bx r236.2.2) fun r260 => Option.bind (at_ (A4_bool.list y16.late) a1) fun (x262 : Bool) => some (⟨y16.setup, y16.sides, y16.clients, ⟨r236.2.2, y16.routers.a1⟩, y16.relay, y16.mail, y16.now, A4_i64.set y16.seen (a1).toNat y16.now, A4_bool.set y16.late (a1).toNat r260, y16.since, y16.told, y16.keys, y16.digests, y16.asked, y16.forged, y16.clash⟩)))) else (some y16)) else (Option.bind (router_Router_Down_bx y16.routers.a1) fun r266 => if (!r266) = true then (Option.bind (at_ (A4_i64.list y16.seen) a1) fun (x269 : Int) => Option.bind (router_Router_Look_bx_bx_bx y16.routers.a1 y16.sides.a0 y16.sides.a1) fun r273 => if (decide (0 < (r273.1.length : Int))) = true then (Option.bind (at_ r273.1 0) fun (x281 : api_Message) => none) else (Option.bind (world_World_send (⟨y16.setup, y16.sides, y16.clients, ⟨y16.routers.a0, r273.2.2⟩, y16.relay, y16.mail, y16.now, A4_i64.set y16.seen (a1).toNat y16.now, y16.late, y16.since, y16.told, y16.keys, y16.digests, y16.asked, y16.forged, y16.clash⟩ : world_World) a1 r273.2.1) fun r286 => Option.bind (at_ (A4_bool.list y16.late) a1) fun (x288 : Bool) => if x288 = true then (Option.bind (at_ (A4_bool.list y16.late) a1) fun (x293 : Bool) => some (⟨y16.setup, y16.sides, y16.clients, ⟨y16.routers.a0, r273.2.2⟩, y16.relay, y16.mail, y16.now, A4_i64.set y16.seen (a1).toNat y16.now, A4_bool.set y16.late (a1).toNat true, y16.since, y16.told, y16.keys, y16.digests, y16.asked, y16.forged, y16.clash⟩)) else (Option.bind (router_Router_Down_bx r273.2.2) fun r297 => Option.bind (at_ (A4_bool.list y16.late) a1) fun (x299 : Bool) => some (⟨y16.setup, y16.sides, y16.clients, ⟨y16.routers.a0, r273.2.2⟩, y16.relay, y16.mail, y16.now, A4_i64.set y16.seen (a1).toNat y16.now, A4_bool.set y16.late (a1).toNat r297, y16.since, y16.told, y16.keys, y16.digests, y16.asked, y16.forged, y16.clash⟩)))) else (some y16)))) fun (y185 : world_World) => if (decide (a1 = 4)) = true then (Option.bind (relay_Relay_Look_bx_bx y185.relay y185.sides.a1) fun r304 => Option.bind (world_World_send y185 a1 r304) fun r307 => some (some y185)) else (some (some y185))
set_option maxRecDepth 20000 in
set_option maxHeartbeats 8000000 in
theorem S_world_World_look_bx (v00 : Value) (a0 : Option world_World) (a1 : Int) (r : (Option world_World)) (h : world_World_look_bx a0 a1 = some r) :
    SpecF Tryz.prog 44 [v00, N a1] [bx world_World.bd world_World.fp v00 a0] [] (fun z : Unit => True) (fun z => Tu []) (fun z M => bx world_World.bd world_World.fp v00 r ::  M) (fun z M =>  M) := by
  refine .of func44 rfl ntmps44 rfl fun w0 D0 G0 => ?_
  unfold world_World_look_bx at h
  refine .seq ?_
  obtain ⟨y2, hy3, h⟩ := bnd_eq h
  refine .bxo .k0 hy3 (fun _ _ _ => rfl) fun ⟨b4, u5, u6, u7, u8, u9, u10, u11, u12, u13, u14, u15⟩ hz1 => ?_
  replace hz1 : v00 = pt b4 0 := hz1
  subst hz1
  refine .draw 12 (.on 0 .pu (.on 1 .pu (.on 2 .pu (.on 3 .pu (.on 5 .pu (.on 6 .pu (.on 7 .pu (.on 8 .pu (.on 4 .ld (.on 9 .ld (.on 10 .go (.on 11 .go .nl)))))))))))) follows_mixed (.thn .body) (by kernel_rfl) <| .dpu rfl (.n rfl) (P.mov .g0) rfl rfl <| .dpu rfl (.n rfl) (P.nilc .t0) rfl rfl <| .dpu rfl (.n rfl) (P.fa .t0 fa_58_1 rfl) rfl rfl <| .dpu rfl (.n rfl) (P.iac (i := 0) .k rfl .t0 runUnderlying48 sizeOf32 rfl rfl) rfl rfl <| .dpu rfl (.n rfl) (P.mov .g1) rfl rfl <| .dpu rfl (.n rfl) (P.nilc .t0) rfl rfl <| .dpu rfl (.n rfl) (P.fa .t0 fa_58_1 rfl) rfl rfl <| .dpu rfl (.n rfl) (P.iac (i := 1) .k rfl .t0 runUnderlying48 sizeOf32 rfl rfl) rfl rfl <| .dld rfl (.n rfl) (V.ld (v := u5) .t1 .k0 (.one isAgg32 rfl)) (fun _ h => h) rfl rfl <| .dld rfl (.n rfl) (V.ld (v := u6) .t1 .k0 (.one isAgg32 rfl)) (fun _ h => h) rfl rfl <| .dgo rfl (.n rfl) (OpV.g (OpP.toV (P.asg .t1)) rfl) (.inr fun _ _ _ h => h) fun _ _ => ?_
  refine .dgo rfl (.n rfl) (OpV.g (OpP.toV (P.asg .t1)) rfl) (.inr fun _ _ _ h => h) fun _ _ => .dnil <| .then ?_
  obtain ⟨y16, hj18, h⟩ := bnd_eq h
  refine .cutx (γ := Unit) (E1 := fun z17 => [(5, u6), (4, u5), (0, pt b4 0), (1, N a1)]) (L1 := fun z17 => [blk b4 58 (world_World.cs y16 u5 u6 u7 u8 u9 u10 u11 u12 u13 u14 u15), bx chain_Chain.bd chain_Chain.fp u6 y16.sides.a1, bx chain_Chain.bd chain_Chain.fp u5 y16.sides.a0, bx client_Client.bd client_Client.fp u7 y16.clients.a0, bx client_Client.bd client_Client.fp u8 y16.clients.a1, bx router_Router.bd router_Router.fp u9 y16.routers.a0, bx router_Router.bd router_Router.fp u10 y16.routers.a1, bx relay_Relay.bd relay_Relay.fp u11 y16.relay, mb (fun (x : world_place) => Ag x.cs) (fun (x : Int) => N x) u12 y16.since, mb (fun (x : world_word) => Ag x.cs) (fun (x : Bool) => Bo x) u13 y16.told, mb (fun (x : ByteArray) => Value.string x) (fun (x : api_Inv) => Ag x.cs) u14 y16.keys, mb (fun (x : ByteArray) => Value.string x) (fun (x : world_data) => Ag x.cs) u15 y16.digests]) (R1 := fun z17 => []) ?_ (fun z17 => ?_)
  · clear h
    refine .seq <| .reg rfl <| .opp (P.mov .g2) rfl <| .opp (P.mov .g4) rfl ?_
    obtain ⟨r19, hr20, hj18⟩ := bnd_eq hj18
    refine .opg (G.call call76 (.cons .t1 (.cons .t0 .nil)) (S_world_World_client b4 y2 u5 u6 u7 u8 u9 u10 u11 u12 u13 u14 u15 a1 r19 hr20) (.cons .k0 (.cons .k0 (.cons .k0 (.cons .k0 (.cons .k0 (.cons .k0 (.cons .k0 (.cons .k0 (.cons .k0 (.cons .k0 (.cons .k0 (.cons .k0 .nil)))))))))))) .nil (fun _ _ => rfl) (fun _ _ => rfl) rfl) rfl fun _ _ => .opp (P.asg .t0) rfl <| .nil <| .then <| .seq <| .reg rfl <| .opp (P.mov .g0) rfl <| .dec (r19 = 0) (fun c21 => ?_) (fun c21 => ?_)
    · rw [if_pos c21] at hj18
      refine .pkV (u := nilp) .k0 (by rw [of_decide_eq_true c21]; rfl) <| .pkV (u := nilp) .k1 (by rw [of_decide_eq_true c21]; rfl) <| .bxn client_Client.bd client_Client.fp ?_
      obtain ⟨r22, hr23, hj18⟩ := bnd_eq hj18
      refine .opg (G.call call77 (.cons .t1 .nil) (S_client_Client_Down_bx nilp none r22 hr23) (.cons .k0 .nil) .nil (fun _ _ => rfl) (fun _ _ => rfl) rfl) rfl fun _ _ => .opp (P.not .t0) rfl <| .nil <| .then <| .cond .t0 (fun c24 => ?_) (fun c24 => ?_)
      · rw [if_pos c24] at hj18
        refine .seq <| .draw 9 (.on 0 .pu (.on 1 .pu (.on 2 .pu (.on 3 .pu (.on 4 .pu (.on 6 .pu (.on 7 .pu (.on 5 .ld (.on 8 .pu (.on 9 .go .nl)))))))))) follows_mixed (.thn (.thn .body)) (by kernel_rfl) <| .dpu rfl (.n rfl) (P.mov .g3) rfl rfl <| .dpu rfl (.n rfl) (P.mov .g5) rfl rfl <| .dpu rfl (.n rfl) (P.mov .g5) rfl rfl <| .dpu rfl (.n rfl) (P.nilc .t0) rfl rfl <| .dpu rfl (.n rfl) (P.fa .t0 fa_58_6 rfl) rfl rfl <| .dpu rfl (.n rfl) (P.nilc .t2) rfl rfl <| .dpu rfl (.n rfl) (P.fa .t0 fa_58_7 rfl) rfl rfl <| .dld rfl (.n rfl) (V.ld (v := N y2.now) .t1 .k1 (.one isAgg3 rfl)) (fun _ h => h) rfl rfl ?_
        obtain ⟨x25, hx26, hj18⟩ := bnd_eq hj18
        obtain ⟨i27, hi28, hx26⟩ := at_eq hx26
        have hi28_ : (a1).toNat = i27 := by rw [hi28]; rfl
        refine .dpu rfl (.n rfl) (P.iad (i := i27) (off' := (13 + i27 * 1)) .t2 hi28 .t1 runUnderlying55 sizeOf3 (lt_of_get hx26) rfl) rfl rfl <| .dgo rfl (.n rfl) (G.str (cs' := (world_World.cs ⟨y2.setup, y2.sides, y2.clients, y2.routers, y2.relay, y2.mail, y2.now, A4_i64.set y2.seen i27 y2.now, y2.late, y2.since, y2.told, y2.keys, y2.digests, y2.asked, y2.forged, y2.clash⟩ u5 u6 u7 u8 u9 u10 u11 u12 u13 u14 u15)) .t1 .t0 .k1 (by rcases i27 with _ | _ | _ | _ | _ <;> first | (obtain rfl := Option.some.inj hx26; exact StV.mk sizeOf3 rfl rfl rfl rfl) | (cases hx26; done))) (.inl rfl) fun _ _ => .conseq .k0 (q := blk b4 58 (world_World.cs ⟨y2.setup, y2.sides, y2.clients, y2.routers, y2.relay, y2.mail, y2.now, A4_i64.set y2.seen (a1).toNat y2.now, y2.late, y2.since, y2.told, y2.keys, y2.digests, y2.asked, y2.forged, y2.clash⟩ u5 u6 u7 u8 u9 u10 u11 u12 u13 u14 u15)) (fun _ h_ => by rw [hi28_]; first | exact h_ | (simp only [hi28_] at h_; exact h_)) <| .dnil <| .then <| .seq <| .reg rfl <| .opp (P.mov .g0) rfl <| .opp (P.mov .g3) rfl <| .opp (P.mov .g3) rfl ?_
        obtain ⟨r29, hr30, hj18⟩ := bnd_eq hj18
        refine .opg (G.call call78 (.cons .t2 (.cons .t1 (.cons .t0 .nil))) (S_client_Client_Look_bx_bx_bx nilp none u5 y2.sides.a0 u6 y2.sides.a1 r29 hr30) (.cons .k1 (.cons .k1 (.cons .k1 .nil))) .nil (fun _ _ => rfl) (fun _ _ => rfl) rfl) rfl fun ⟨u31, u32⟩ _ => .conseq .k0 (q := bx client_Client.bd client_Client.fp nilp none) (fun _ h_ => bx_nilp h_) <| .opp (P.mov .t0) rfl <| .opp (P.ext (v := u31) .g0 rfl) rfl <| .opp (P.ext (v := u32) .t1 rfl) rfl <| .opp (P.asg .t1) rfl <| .opp (P.asg .t1) rfl <| .nil <| .then <| .seq <| .seq <| .reg rfl ?_
        refine .opp (P.mov .t1) rfl <| .op (V.lnl (n := r29.1.length) .g0 .k3 map_len runUnderlying117) rfl <| .opp (P.mov .k) rfl <| .nil <| .then <| .block <| .rounds 1 <| .rd <| .seq <| .reg rfl <| .opp (P.bin .g0 .g1 .lss) rfl <| .nil ?_
        refine .then <| .seq <| .cond .t0 (fun c33 => ?_) (fun c33 => ?_)
        · rw [if_pos c33] at hj18
          refine .skip <| .then <| .seq <| .block <| .seq <| .reg rfl ?_
          obtain ⟨x37, hx38, hj18⟩ := bnd_eq hj18
          obtain ⟨i39, hi40, hx38⟩ := at_eq hx38
          have hi40_ : (0 : Int).toNat = i39 := by rw [hi40]; rfl
          refine .ixql .k3 (map_get hx38) fun p34 q35 hq36 => .opp (P.ixi (i := i39) .g0 hi40 .g2 hq36 runUnderlying117 sizeOf176) rfl <| .op (V.ldxl0 (u := Ag (api_Message.cs x37)) .t0 hq36 .k3 (map_get hx38) (.agg isAgg176 sizeOf176 rfl rfl)) rfl <| .opx (X.alc (cs := (api_Message.cs ⟨0, ⟨0, 0, 0, 0, ⟨0, 0, 0, 0⟩, ⟨#[]⟩⟩, ⟨0, ⟨0, 0, 0, 0, ⟨0, 0, 0, 0⟩, ⟨#[]⟩⟩, ⟨0, 0, 0, 0⟩, 0, ⟨#[]⟩⟩, ⟨0, ⟨#[]⟩, 0, 0, 0, 0, ⟨#[]⟩⟩, ⟨⟨0, 0, 0, 0⟩, 0⟩, ⟨0, 0, 0, 0⟩, ⟨#[]⟩⟩)) zeroValue176 rfl) rfl fun b41 => .opg (G.str .t1 .g0 .k0 (.mk (cs' := (api_Message.cs x37)) sizeOf176 rfl rfl rfl rfl)) rfl fun _ _ => .nil <| .then <| .seq <| .draw 12 (.on 0 .pu (.on 1 .pu (.on 2 .pu (.on 4 .pu (.on 6 .pu (.on 8 .pu (.on 3 .ld (.on 5 .ld (.on 7 .ld (.on 9 .ld (.on 10 .pu (.on 11 .go .nl)))))))))))) follows_mixed (.thn (.inb (.thn (.thn (.inb (.thn (.thn .body))))))) (by kernel_rfl) <| .dpu rfl (.n rfl) (P.mov .g8) rfl rfl <| .dpu rfl (.n rfl) (P.nilc .t0) rfl rfl <| .dpu rfl (.n rfl) (P.fa .t0 fa_58_10 rfl) rfl rfl ?_
          refine .dpu rfl (.n rfl) (P.fa .g1 fa_176_3 rfl) rfl rfl <| .dpu rfl (.n rfl) (P.fa .g2 fa_176_5 rfl) rfl rfl <| .dpu rfl (.n rfl) (P.fa .g3 fa_176_6 rfl) rfl rfl <| .dld rfl (.n rfl) (V.ld (v := u13) .t3 .k6 (.one isAgg45 rfl)) (fun _ h => h) rfl rfl <| .dld rfl (.n rfl) (V.ld (v := Ag (api_Inv.cs x37.Inv)) .t3 .k0 (.agg isAgg79 sizeOf79 rfl rfl)) (fun _ h => h) rfl rfl <| .dld rfl (.n rfl) (V.ld (v := Ag (api_Wide.cs x37.Fee)) .t3 .k0 (.agg isAgg77 sizeOf77 rfl rfl)) (fun _ h => h) rfl rfl <| .dld rfl (.n rfl) (V.ld (v := .string x37.Sig) .t3 .k0 (.one isAgg9 rfl)) (fun _ h => h) rfl rfl <| .dpu rfl (.n rfl) (P.bld (v := Ag (world_word.cs ⟨x37.Inv, x37.Fee, x37.Sig⟩)) (.cons .t2 (.cons .t1 (.cons .t0 .nil))) (bld_run zeroValue178 runUnderlying178 pl_178 (by kernel_rfl))) rfl rfl ?_
          cases hj18
        · rw [if_neg (ne_true_of_eq_false c33)] at hj18
          refine .exit <| .thx <| .thx <| .inb <| .then <| .seq <| .seq <| .reg rfl <| .opp (P.mov .g3) rfl <| .op (V.lnl (n := r29.2.1.length) .g0 .k4 map_len runUnderlying118) rfl <| .opp (P.mov .k) rfl <| .nil ?_
          refine .then <| .block <| .rounds 1 <| .rd <| .seq <| .reg rfl <| .opp (P.bin .g0 .g1 .lss) rfl <| .nil <| .then <| .seq <| .cond .t0 (fun c46 => ?_) (fun c46 => ?_)
          · rw [if_pos c46] at hj18
            refine .skip <| .then <| .seq <| .block <| .seq <| .reg rfl ?_
            obtain ⟨x50, hx51, hj18⟩ := bnd_eq hj18
            obtain ⟨i52, hi53, hx51⟩ := at_eq hx51
            have hi53_ : (0 : Int).toNat = i52 := by rw [hi53]; rfl
            refine .ixql .k4 (map_get hx51) fun p47 q48 hq49 => .opp (P.ixi (i := i52) .g0 hi53 .g2 hq49 runUnderlying118 sizeOf181) rfl <| .op (V.ldxl0 (u := Ag (api_Send.cs x50)) .t0 hq49 .k4 (map_get hx51) (.agg isAgg181 sizeOf181 rfl rfl)) rfl <| .opx (X.alc (cs := (api_Send.cs ⟨0, ⟨0, 0, 0, 0, ⟨0, 0, 0, 0⟩, ⟨0, ⟨#[]⟩, 0, 0, 0, 0, ⟨#[]⟩⟩, ⟨⟨0, 0, 0, 0⟩, 0⟩, ⟨0, 0, 0, 0⟩, ⟨#[]⟩⟩⟩)) zeroValue181 rfl) rfl fun b54 => .opg (G.str .t1 .g0 .k0 (.mk (cs' := (api_Send.cs x50)) sizeOf181 rfl rfl rfl rfl)) rfl fun _ _ => .nil <| .then <| .draw 15 (.on 0 .pu (.on 1 .pu (.on 2 .pu (.on 4 .pu (.on 5 .pu (.on 7 .pu (.on 8 .pu (.on 10 .pu (.on 11 .pu (.on 3 .ld (.on 6 .ld (.on 9 .ld (.on 12 .ld (.on 13 .pu (.on 14 .go .nl))))))))))))))) follows_mixed (.inb (.thn (.thn (.inb (.thn (.thn .body)))))) (by kernel_rfl) <| .dpu rfl (.n rfl) (P.mov .g11) rfl rfl <| .dpu rfl (.n rfl) (P.nilc .t0) rfl rfl <| .dpu rfl (.n rfl) (P.fa .t0 fa_58_10 rfl) rfl rfl <| .dpu rfl (.n rfl) (P.fa .g1 fa_181_1 rfl) rfl rfl ?_
            refine .dpu rfl (.n rfl) (P.fa .t0 fa_83_5 rfl) rfl rfl <| .dpu rfl (.n rfl) (P.fa .g2 fa_181_1 rfl) rfl rfl <| .dpu rfl (.n rfl) (P.fa .t0 fa_83_7 rfl) rfl rfl <| .dpu rfl (.n rfl) (P.fa .t3 fa_181_1 rfl) rfl rfl <| .dpu rfl (.n rfl) (P.fa .t0 fa_83_8 rfl) rfl rfl <| .dld rfl (.n rfl) (V.ld (v := u13) .t3 .k6 (.one isAgg45 rfl)) (fun _ h => h) rfl rfl <| .dld rfl (.n rfl) (V.ld (v := Ag (api_Inv.cs x50.Tx.Inv)) .t3 .k0 (.agg isAgg79 sizeOf79 rfl rfl)) (fun _ h => h) rfl rfl <| .dld rfl (.n rfl) (V.ld (v := Ag (api_Wide.cs x50.Tx.Fee)) .t3 .k0 (.agg isAgg77 sizeOf77 rfl rfl)) (fun _ h => h) rfl rfl <| .dld rfl (.n rfl) (V.ld (v := .string x50.Tx.Sig) .t3 .k0 (.one isAgg9 rfl)) (fun _ h => h) rfl rfl <| .dpu rfl (.n rfl) (P.bld (v := Ag (world_word.cs ⟨x50.Tx.Inv, x50.Tx.Fee, x50.Tx.Sig⟩)) (.cons .t2 (.cons .t1 (.cons .t0 .nil))) (bld_run zeroValue178 runUnderlying178 pl_178 (by kernel_rfl))) rfl rfl ?_
            cases hj18
          · rw [if_neg (ne_true_of_eq_false c46)] at hj18
            refine .exit <| .thx <| .thx <| .inb <| .then <| .seq <| .reg rfl <| .opp (P.mov .g10) rfl <| .opp (P.mov .g12) rfl <| .opp (P.mov .t8) rfl ?_
            obtain ⟨r59, hr60, hj18⟩ := bnd_eq hj18
            refine .opg (G.calll call80 (.cons .t2 (.cons .t1 (.cons .t0 .nil))) (S_world_World_send b4 (⟨y2.setup, y2.sides, y2.clients, y2.routers, y2.relay, y2.mail, y2.now, A4_i64.set y2.seen (a1).toNat y2.now, y2.late, y2.since, y2.told, y2.keys, y2.digests, y2.asked, y2.forged, y2.clash⟩ : world_World) u5 u6 u7 u8 u9 u10 u11 u12 u13 u14 u15 a1 u32 r29.2.1 r59 hr60) (.cons .k5 (.cons .k1 (.cons .k1 (.cons .k3 (.cons .k3 (.cons .k3 (.cons .k3 (.cons .k3 (.cons .k3 (.cons .k3 (.cons .k3 (.cons .k3 .nil)))))))))))) (.imp (List.mem_append_right _ Mm.m2) (fun _ => lst_rows) .nil) (fun _ _ => rfl) rfl) rfl fun _ _ => .drop .k0 <| .nil <| .then <| .draw 10 (.on 0 .pu (.on 1 .pu (.on 2 .pu (.on 3 .pu (.on 4 .pu (.on 5 .pu (.on 6 .pu (.on 12 .pu (.on 13 .pu (.on 7 .go (.on 8 .pu (.on 9 .pu (.on 10 .go (.on 11 .pu (.on 14 .pu (.on 15 .go .nl)))))))))))))))) follows_mixed (.thn .body) (by kernel_rfl) <| .dpu rfl (.n rfl) (P.mov .g9) rfl rfl <| .dpu rfl (.n rfl) (P.mov .g11) rfl rfl <| .dpu rfl (.n rfl) (P.mov .g11) rfl rfl <| .dpu rfl (.n rfl) (P.mov .g13) rfl rfl <| .dpu rfl (.n rfl) (P.nilc .t1) rfl rfl <| .dpu rfl (.n rfl) (P.fa .t0 fa_58_8 rfl) rfl rfl ?_
            obtain ⟨x61, hx62, hj18⟩ := bnd_eq hj18
            obtain ⟨i63, hi64, hx62⟩ := at_eq hx62
            have hi64_ : (a1).toNat = i63 := by rw [hi64]; rfl
            refine .dpu rfl (.n rfl) (P.iad (i := i63) (off' := (17 + i63 * 1)) .t1 hi64 .t0 runUnderlying56 sizeOf4 (lt_of_get hx62) rfl) rfl rfl <| .dpu rfl (.n rfl) (P.nilc .t2) rfl rfl <| .dpu rfl (.n rfl) (P.fa .t0 fa_58_8 rfl) rfl rfl <| .dgo rfl (.n rfl) (OpV.g (V.ld (v := Bo x61) .t1 .k0 (by rcases i63 with _ | _ | _ | _ | _ <;> first | (obtain rfl := Option.some.inj hx62; exact LdV.one isAgg4 rfl) | (cases hx62; done))) rfl) (.inr fun _ _ _ h => h) fun _ _ => .dpu rfl (.n rfl) (P.mov .t0) rfl rfl <| .split .k0 (fun c65 => ?_) (fun c65 => ?_)
            · rw [if_pos c65] at hj18
              refine .dsk rfl (.g rfl rfl .g0 rfl) rfl rfl <| .dskg rfl (.g rfl rfl .g0 rfl) (.inl rfl) rfl rfl <| .dpu rfl (.n rfl) (P.pickT .t0 .k) rfl rfl ?_
              obtain ⟨x66, hx67, hj18⟩ := bnd_eq hj18
              obtain ⟨i68, hi69, hx67⟩ := at_eq hx67
              have hi69_ : (a1).toNat = i68 := by rw [hi69]; rfl
              refine .dpu rfl (.n rfl) (P.iad (i := i68) (off' := (17 + i68 * 1)) .t2 hi69 .t1 runUnderlying56 sizeOf4 (lt_of_get hx67) rfl) rfl rfl <| .dgo rfl (.n rfl) (G.str (cs' := (world_World.cs ⟨y2.setup, y2.sides, y2.clients, y2.routers, y2.relay, y2.mail, y2.now, A4_i64.set y2.seen (a1).toNat y2.now, A4_bool.set y2.late i68 true, y2.since, y2.told, y2.keys, y2.digests, y2.asked, y2.forged, y2.clash⟩ u5 u6 u7 u8 u9 u10 u11 u12 u13 u14 u15)) .t1 .t0 .k0 (by rcases i68 with _ | _ | _ | _ | _ <;> first | (obtain rfl := Option.some.inj hx67; exact StV.mk sizeOf4 rfl rfl rfl rfl) | (cases hx67; done))) (.inl rfl) fun _ _ => .conseq .k0 (q := blk b4 58 (world_World.cs ⟨y2.setup, y2.sides, y2.clients, y2.routers, y2.relay, y2.mail, y2.now, A4_i64.set y2.seen (a1).toNat y2.now, A4_bool.set y2.late (a1).toNat true, y2.since, y2.told, y2.keys, y2.digests, y2.asked, y2.forged, y2.clash⟩ u5 u6 u7 u8 u9 u10 u11 u12 u13 u14 u15)) (fun _ h_ => by rw [hi69_]; first | exact h_ | (simp only [hi69_] at h_; exact h_)) <| .dnil ?_
              cases hj18
              exact .stj () (.cons Mm.m7 (.cons Mm.m8 (.cons Mm.m9 (.cons Mm.m10 .nil)))) (.of (.cons .k0 (.cons .k1 (.cons .k0 (.cons .k0 (.cons .k0 (.cons .k0 (.cons .k0 (.cons .k0 (.cons .k0 (.cons .k0 (.cons .k0 (.cons .k0 .nil))))))))))))) .nil
            · rw [if_neg (ne_true_of_eq_false c65)] at hj18
              refine .dpu rfl (.g rfl rfl .g0 rfl) (P.mov .t9) rfl rfl ?_
              obtain ⟨r70, hr71, hj18⟩ := bnd_eq hj18
              refine .dgo rfl (.g rfl rfl .g1 rfl) (G.call call77 (.cons .t0 .nil) (S_client_Client_Down_bx nilp none r70 hr71) (.cons .k12 .nil) .nil (fun _ _ => rfl) (fun _ _ => rfl) rfl) (.inl rfl) fun _ _ => .dpu rfl (.n rfl) (P.pickF .t1 .t0) rfl rfl ?_
              obtain ⟨x72, hx73, hj18⟩ := bnd_eq hj18
              obtain ⟨i74, hi75, hx73⟩ := at_eq hx73
              have hi75_ : (a1).toNat = i74 := by rw [hi75]; rfl
              refine .dpu rfl (.n rfl) (P.iad (i := i74) (off' := (17 + i74 * 1)) .t2 hi75 .t1 runUnderlying56 sizeOf4 (lt_of_get hx73) rfl) rfl rfl <| .dgo rfl (.n rfl) (G.str (cs' := (world_World.cs ⟨y2.setup, y2.sides, y2.clients, y2.routers, y2.relay, y2.mail, y2.now, A4_i64.set y2.seen (a1).toNat y2.now, A4_bool.set y2.late i74 r70, y2.since, y2.told, y2.keys, y2.digests, y2.asked, y2.forged, y2.clash⟩ u5 u6 u7 u8 u9 u10 u11 u12 u13 u14 u15)) .t1 .t0 .k1 (by rcases i74 with _ | _ | _ | _ | _ <;> first | (obtain rfl := Option.some.inj hx73; exact StV.mk sizeOf4 rfl rfl rfl rfl) | (cases hx73; done))) (.inl rfl) fun _ _ => .conseq .k0 (q := blk b4 58 (world_World.cs ⟨y2.setup, y2.sides, y2.clients, y2.routers, y2.relay, y2.mail, y2.now, A4_i64.set y2.seen (a1).toNat y2.now, A4_bool.set y2.late (a1).toNat r70, y2.since, y2.told, y2.keys, y2.digests, y2.asked, y2.forged, y2.clash⟩ u5 u6 u7 u8 u9 u10 u11 u12 u13 u14 u15)) (fun _ h_ => by rw [hi75_]; first | exact h_ | (simp only [hi75_] at h_; exact h_)) <| .dnil ?_
              cases hj18
              exact .stj () (.cons Mm.m6 (.cons Mm.m7 (.cons Mm.m8 (.cons Mm.m9 .nil)))) (.of (.cons .k0 (.cons .k2 (.cons .k1 (.cons .k1 (.cons .k1 (.cons .k1 (.cons .k1 (.cons .k1 (.cons .k1 (.cons .k1 (.cons .k1 (.cons .k1 .nil))))))))))))) .nil
      · rw [if_neg (ne_true_of_eq_false c24)] at hj18
        refine .skip ?_
        cases hj18
        exact .stj () (.cons Mm.m1 (.cons Mm.m2 (.cons Mm.m3 (.cons Mm.m4 .nil)))) (.of (.cons .k1 (.cons .k2 (.cons .k1 (.cons .k1 (.cons .k1 (.cons .k1 (.cons .k1 (.cons .k1 (.cons .k1 (.cons .k1 (.cons .k1 (.cons .k1 .nil))))))))))))) .nil
    · rw [if_neg (ne_true_of_eq_false c21)] at hj18
      refine .pkV (u := pk r19 1 [u7, u8]) .k0 (by rw [pk, if_neg (of_decide_eq_false c21)]) <| .pkV (u := pk r19 1 [u7, u8]) .k1 (by rw [pk, if_neg (of_decide_eq_false c21)]) <| .dec (r19 = 1) (fun c76 => ?_) (fun c76 => ?_)
      · rw [if_pos c76] at hj18
        refine .pkV (u := u7) .k0 (by rw [of_decide_eq_true c76]; rfl) <| .pkV (u := u7) .k1 (by rw [of_decide_eq_true c76]; rfl) ?_
        obtain ⟨r77, hr78, hj18⟩ := bnd_eq hj18
        refine .opg (G.call call77 (.cons .t0 .nil) (S_client_Client_Down_bx u7 y2.clients.a0 r77 hr78) (.cons .k3 .nil) .nil (fun _ _ => rfl) (fun _ _ => rfl) rfl) rfl fun _ _ => .opp (P.not .t0) rfl <| .nil <| .then <| .cond .t0 (fun c79 => ?_) (fun c79 => ?_)
        · rw [if_pos c79] at hj18
          refine .seq <| .draw 9 (.on 0 .pu (.on 1 .pu (.on 2 .pu (.on 3 .pu (.on 4 .pu (.on 6 .pu (.on 7 .pu (.on 5 .ld (.on 8 .pu (.on 9 .go .nl)))))))))) follows_mixed (.thn (.thn .body)) (by kernel_rfl) <| .dpu rfl (.n rfl) (P.mov .g3) rfl rfl <| .dpu rfl (.n rfl) (P.mov .g5) rfl rfl <| .dpu rfl (.n rfl) (P.mov .g5) rfl rfl <| .dpu rfl (.n rfl) (P.nilc .t0) rfl rfl <| .dpu rfl (.n rfl) (P.fa .t0 fa_58_6 rfl) rfl rfl <| .dpu rfl (.n rfl) (P.nilc .t2) rfl rfl <| .dpu rfl (.n rfl) (P.fa .t0 fa_58_7 rfl) rfl rfl <| .dld rfl (.n rfl) (V.ld (v := N y2.now) .t1 .k1 (.one isAgg3 rfl)) (fun _ h => h) rfl rfl ?_
          obtain ⟨x80, hx81, hj18⟩ := bnd_eq hj18
          obtain ⟨i82, hi83, hx81⟩ := at_eq hx81
          have hi83_ : (a1).toNat = i82 := by rw [hi83]; rfl
          refine .dpu rfl (.n rfl) (P.iad (i := i82) (off' := (13 + i82 * 1)) .t2 hi83 .t1 runUnderlying55 sizeOf3 (lt_of_get hx81) rfl) rfl rfl <| .dgo rfl (.n rfl) (G.str (cs' := (world_World.cs ⟨y2.setup, y2.sides, y2.clients, y2.routers, y2.relay, y2.mail, y2.now, A4_i64.set y2.seen i82 y2.now, y2.late, y2.since, y2.told, y2.keys, y2.digests, y2.asked, y2.forged, y2.clash⟩ u5 u6 u7 u8 u9 u10 u11 u12 u13 u14 u15)) .t1 .t0 .k1 (by rcases i82 with _ | _ | _ | _ | _ <;> first | (obtain rfl := Option.some.inj hx81; exact StV.mk sizeOf3 rfl rfl rfl rfl) | (cases hx81; done))) (.inl rfl) fun _ _ => .conseq .k0 (q := blk b4 58 (world_World.cs ⟨y2.setup, y2.sides, y2.clients, y2.routers, y2.relay, y2.mail, y2.now, A4_i64.set y2.seen (a1).toNat y2.now, y2.late, y2.since, y2.told, y2.keys, y2.digests, y2.asked, y2.forged, y2.clash⟩ u5 u6 u7 u8 u9 u10 u11 u12 u13 u14 u15)) (fun _ h_ => by rw [hi83_]; first | exact h_ | (simp only [hi83_] at h_; exact h_)) <| .dnil <| .then <| .seq <| .reg rfl <| .opp (P.mov .g0) rfl <| .opp (P.mov .g3) rfl <| .opp (P.mov .g3) rfl ?_
          obtain ⟨r84, hr85, hj18⟩ := bnd_eq hj18
          refine .opg (G.call call78 (.cons .t2 (.cons .t1 (.cons .t0 .nil))) (S_client_Client_Look_bx_bx_bx u7 y2.clients.a0 u5 y2.sides.a0 u6 y2.sides.a1 r84 hr85) (.cons .k1 (.cons .k1 (.cons .k1 .nil))) .nil (fun _ _ => rfl) (fun _ _ => rfl) rfl) rfl fun ⟨u86, u87⟩ _ => .opp (P.mov .t0) rfl <| .opp (P.ext (v := u86) .g0 rfl) rfl <| .opp (P.ext (v := u87) .t1 rfl) rfl <| .opp (P.asg .t1) rfl <| .opp (P.asg .t1) rfl <| .nil <| .then <| .seq <| .seq <| .reg rfl <| .opp (P.mov .t1) rfl ?_
          refine .op (V.lnl (n := r84.1.length) .g0 .k3 map_len runUnderlying117) rfl <| .opp (P.mov .k) rfl <| .nil <| .then <| .block <| .rounds 1 <| .rd <| .seq <| .reg rfl <| .opp (P.bin .g0 .g1 .lss) rfl <| .nil <| .then ?_
          refine .seq <| .cond .t0 (fun c88 => ?_) (fun c88 => ?_)
          · rw [if_pos c88] at hj18
            refine .skip <| .then <| .seq <| .block <| .seq <| .reg rfl ?_
            obtain ⟨x92, hx93, hj18⟩ := bnd_eq hj18
            obtain ⟨i94, hi95, hx93⟩ := at_eq hx93
            have hi95_ : (0 : Int).toNat = i94 := by rw [hi95]; rfl
            refine .ixql .k3 (map_get hx93) fun p89 q90 hq91 => .opp (P.ixi (i := i94) .g0 hi95 .g2 hq91 runUnderlying117 sizeOf176) rfl <| .op (V.ldxl0 (u := Ag (api_Message.cs x92)) .t0 hq91 .k3 (map_get hx93) (.agg isAgg176 sizeOf176 rfl rfl)) rfl <| .opx (X.alc (cs := (api_Message.cs ⟨0, ⟨0, 0, 0, 0, ⟨0, 0, 0, 0⟩, ⟨#[]⟩⟩, ⟨0, ⟨0, 0, 0, 0, ⟨0, 0, 0, 0⟩, ⟨#[]⟩⟩, ⟨0, 0, 0, 0⟩, 0, ⟨#[]⟩⟩, ⟨0, ⟨#[]⟩, 0, 0, 0, 0, ⟨#[]⟩⟩, ⟨⟨0, 0, 0, 0⟩, 0⟩, ⟨0, 0, 0, 0⟩, ⟨#[]⟩⟩)) zeroValue176 rfl) rfl fun b96 => .opg (G.str .t1 .g0 .k0 (.mk (cs' := (api_Message.cs x92)) sizeOf176 rfl rfl rfl rfl)) rfl fun _ _ => .nil <| .then <| .seq <| .draw 12 (.on 0 .pu (.on 1 .pu (.on 2 .pu (.on 4 .pu (.on 6 .pu (.on 8 .pu (.on 3 .ld (.on 5 .ld (.on 7 .ld (.on 9 .ld (.on 10 .pu (.on 11 .go .nl)))))))))))) follows_mixed (.thn (.inb (.thn (.thn (.inb (.thn (.thn .body))))))) (by kernel_rfl) <| .dpu rfl (.n rfl) (P.mov .g8) rfl rfl <| .dpu rfl (.n rfl) (P.nilc .t0) rfl rfl <| .dpu rfl (.n rfl) (P.fa .t0 fa_58_10 rfl) rfl rfl ?_
            refine .dpu rfl (.n rfl) (P.fa .g1 fa_176_3 rfl) rfl rfl <| .dpu rfl (.n rfl) (P.fa .g2 fa_176_5 rfl) rfl rfl <| .dpu rfl (.n rfl) (P.fa .g3 fa_176_6 rfl) rfl rfl <| .dld rfl (.n rfl) (V.ld (v := u13) .t3 .k6 (.one isAgg45 rfl)) (fun _ h => h) rfl rfl <| .dld rfl (.n rfl) (V.ld (v := Ag (api_Inv.cs x92.Inv)) .t3 .k0 (.agg isAgg79 sizeOf79 rfl rfl)) (fun _ h => h) rfl rfl <| .dld rfl (.n rfl) (V.ld (v := Ag (api_Wide.cs x92.Fee)) .t3 .k0 (.agg isAgg77 sizeOf77 rfl rfl)) (fun _ h => h) rfl rfl <| .dld rfl (.n rfl) (V.ld (v := .string x92.Sig) .t3 .k0 (.one isAgg9 rfl)) (fun _ h => h) rfl rfl <| .dpu rfl (.n rfl) (P.bld (v := Ag (world_word.cs ⟨x92.Inv, x92.Fee, x92.Sig⟩)) (.cons .t2 (.cons .t1 (.cons .t0 .nil))) (bld_run zeroValue178 runUnderlying178 pl_178 (by kernel_rfl))) rfl rfl ?_
            cases hj18
          · rw [if_neg (ne_true_of_eq_false c88)] at hj18
            refine .exit <| .thx <| .thx <| .inb <| .then <| .seq <| .seq <| .reg rfl <| .opp (P.mov .g3) rfl <| .op (V.lnl (n := r84.2.1.length) .g0 .k4 map_len runUnderlying118) rfl <| .opp (P.mov .k) rfl <| .nil ?_
            refine .then <| .block <| .rounds 1 <| .rd <| .seq <| .reg rfl <| .opp (P.bin .g0 .g1 .lss) rfl <| .nil <| .then <| .seq <| .cond .t0 (fun c101 => ?_) (fun c101 => ?_)
            · rw [if_pos c101] at hj18
              refine .skip <| .then <| .seq <| .block <| .seq <| .reg rfl ?_
              obtain ⟨x105, hx106, hj18⟩ := bnd_eq hj18
              obtain ⟨i107, hi108, hx106⟩ := at_eq hx106
              have hi108_ : (0 : Int).toNat = i107 := by rw [hi108]; rfl
              refine .ixql .k4 (map_get hx106) fun p102 q103 hq104 => .opp (P.ixi (i := i107) .g0 hi108 .g2 hq104 runUnderlying118 sizeOf181) rfl <| .op (V.ldxl0 (u := Ag (api_Send.cs x105)) .t0 hq104 .k4 (map_get hx106) (.agg isAgg181 sizeOf181 rfl rfl)) rfl <| .opx (X.alc (cs := (api_Send.cs ⟨0, ⟨0, 0, 0, 0, ⟨0, 0, 0, 0⟩, ⟨0, ⟨#[]⟩, 0, 0, 0, 0, ⟨#[]⟩⟩, ⟨⟨0, 0, 0, 0⟩, 0⟩, ⟨0, 0, 0, 0⟩, ⟨#[]⟩⟩⟩)) zeroValue181 rfl) rfl fun b109 => .opg (G.str .t1 .g0 .k0 (.mk (cs' := (api_Send.cs x105)) sizeOf181 rfl rfl rfl rfl)) rfl fun _ _ => .nil <| .then <| .draw 15 (.on 0 .pu (.on 1 .pu (.on 2 .pu (.on 4 .pu (.on 5 .pu (.on 7 .pu (.on 8 .pu (.on 10 .pu (.on 11 .pu (.on 3 .ld (.on 6 .ld (.on 9 .ld (.on 12 .ld (.on 13 .pu (.on 14 .go .nl))))))))))))))) follows_mixed (.inb (.thn (.thn (.inb (.thn (.thn .body)))))) (by kernel_rfl) <| .dpu rfl (.n rfl) (P.mov .g11) rfl rfl <| .dpu rfl (.n rfl) (P.nilc .t0) rfl rfl <| .dpu rfl (.n rfl) (P.fa .t0 fa_58_10 rfl) rfl rfl <| .dpu rfl (.n rfl) (P.fa .g1 fa_181_1 rfl) rfl rfl ?_
              refine .dpu rfl (.n rfl) (P.fa .t0 fa_83_5 rfl) rfl rfl <| .dpu rfl (.n rfl) (P.fa .g2 fa_181_1 rfl) rfl rfl <| .dpu rfl (.n rfl) (P.fa .t0 fa_83_7 rfl) rfl rfl <| .dpu rfl (.n rfl) (P.fa .t3 fa_181_1 rfl) rfl rfl <| .dpu rfl (.n rfl) (P.fa .t0 fa_83_8 rfl) rfl rfl <| .dld rfl (.n rfl) (V.ld (v := u13) .t3 .k6 (.one isAgg45 rfl)) (fun _ h => h) rfl rfl <| .dld rfl (.n rfl) (V.ld (v := Ag (api_Inv.cs x105.Tx.Inv)) .t3 .k0 (.agg isAgg79 sizeOf79 rfl rfl)) (fun _ h => h) rfl rfl <| .dld rfl (.n rfl) (V.ld (v := Ag (api_Wide.cs x105.Tx.Fee)) .t3 .k0 (.agg isAgg77 sizeOf77 rfl rfl)) (fun _ h => h) rfl rfl <| .dld rfl (.n rfl) (V.ld (v := .string x105.Tx.Sig) .t3 .k0 (.one isAgg9 rfl)) (fun _ h => h) rfl rfl <| .dpu rfl (.n rfl) (P.bld (v := Ag (world_word.cs ⟨x105.Tx.Inv, x105.Tx.Fee, x105.Tx.Sig⟩)) (.cons .t2 (.cons .t1 (.cons .t0 .nil))) (bld_run zeroValue178 runUnderlying178 pl_178 (by kernel_rfl))) rfl rfl ?_
              cases hj18
            · rw [if_neg (ne_true_of_eq_false c101)] at hj18
              refine .exit <| .thx <| .thx <| .inb <| .then <| .seq <| .reg rfl <| .opp (P.mov .g10) rfl <| .opp (P.mov .g12) rfl <| .opp (P.mov .t8) rfl ?_
              obtain ⟨r114, hr115, hj18⟩ := bnd_eq hj18
              refine .opg (G.calll call80 (.cons .t2 (.cons .t1 (.cons .t0 .nil))) (S_world_World_send b4 (⟨y2.setup, y2.sides, ⟨r84.2.2, y2.clients.a1⟩, y2.routers, y2.relay, y2.mail, y2.now, A4_i64.set y2.seen (a1).toNat y2.now, y2.late, y2.since, y2.told, y2.keys, y2.digests, y2.asked, y2.forged, y2.clash⟩ : world_World) u5 u6 u7 u8 u9 u10 u11 u12 u13 u14 u15 a1 u87 r84.2.1 r114 hr115) (.cons .k5 (.cons .k1 (.cons .k1 (.cons .k0 (.cons .k2 (.cons .k2 (.cons .k2 (.cons .k2 (.cons .k2 (.cons .k2 (.cons .k2 (.cons .k2 .nil)))))))))))) (.imp (List.mem_append_right _ Mm.m1) (fun _ => lst_rows) .nil) (fun _ _ => rfl) rfl) rfl fun _ _ => .drop .k0 <| .nil <| .then <| .draw 10 (.on 0 .pu (.on 1 .pu (.on 2 .pu (.on 3 .pu (.on 4 .pu (.on 5 .pu (.on 6 .pu (.on 12 .pu (.on 13 .pu (.on 7 .go (.on 8 .pu (.on 9 .pu (.on 10 .go (.on 11 .pu (.on 14 .pu (.on 15 .go .nl)))))))))))))))) follows_mixed (.thn .body) (by kernel_rfl) <| .dpu rfl (.n rfl) (P.mov .g9) rfl rfl <| .dpu rfl (.n rfl) (P.mov .g11) rfl rfl <| .dpu rfl (.n rfl) (P.mov .g11) rfl rfl <| .dpu rfl (.n rfl) (P.mov .g13) rfl rfl <| .dpu rfl (.n rfl) (P.nilc .t1) rfl rfl <| .dpu rfl (.n rfl) (P.fa .t0 fa_58_8 rfl) rfl rfl ?_
              obtain ⟨x116, hx117, hj18⟩ := bnd_eq hj18
              obtain ⟨i118, hi119, hx117⟩ := at_eq hx117
              have hi119_ : (a1).toNat = i118 := by rw [hi119]; rfl
              refine .dpu rfl (.n rfl) (P.iad (i := i118) (off' := (17 + i118 * 1)) .t1 hi119 .t0 runUnderlying56 sizeOf4 (lt_of_get hx117) rfl) rfl rfl <| .dpu rfl (.n rfl) (P.nilc .t2) rfl rfl <| .dpu rfl (.n rfl) (P.fa .t0 fa_58_8 rfl) rfl rfl <| .dgo rfl (.n rfl) (OpV.g (V.ld (v := Bo x116) .t1 .k0 (by rcases i118 with _ | _ | _ | _ | _ <;> first | (obtain rfl := Option.some.inj hx117; exact LdV.one isAgg4 rfl) | (cases hx117; done))) rfl) (.inr fun _ _ _ h => h) fun _ _ => .dpu rfl (.n rfl) (P.mov .t0) rfl rfl <| .split .k0 (fun c120 => ?_) (fun c120 => ?_)
              · rw [if_pos c120] at hj18
                refine .dsk rfl (.g rfl rfl .g0 rfl) rfl rfl <| .dskg rfl (.g rfl rfl .g0 rfl) (.inl rfl) rfl rfl <| .dpu rfl (.n rfl) (P.pickT .t0 .k) rfl rfl ?_
                obtain ⟨x121, hx122, hj18⟩ := bnd_eq hj18
                obtain ⟨i123, hi124, hx122⟩ := at_eq hx122
                have hi124_ : (a1).toNat = i123 := by rw [hi124]; rfl
                refine .dpu rfl (.n rfl) (P.iad (i := i123) (off' := (17 + i123 * 1)) .t2 hi124 .t1 runUnderlying56 sizeOf4 (lt_of_get hx122) rfl) rfl rfl <| .dgo rfl (.n rfl) (G.str (cs' := (world_World.cs ⟨y2.setup, y2.sides, y2.clients, y2.routers, y2.relay, y2.mail, y2.now, A4_i64.set y2.seen (a1).toNat y2.now, A4_bool.set y2.late i123 true, y2.since, y2.told, y2.keys, y2.digests, y2.asked, y2.forged, y2.clash⟩ u5 u6 u7 u8 u9 u10 u11 u12 u13 u14 u15)) .t1 .t0 .k0 (by rcases i123 with _ | _ | _ | _ | _ <;> first | (obtain rfl := Option.some.inj hx122; exact StV.mk sizeOf4 rfl rfl rfl rfl) | (cases hx122; done))) (.inl rfl) fun _ _ => .conseq .k0 (q := blk b4 58 (world_World.cs ⟨y2.setup, y2.sides, y2.clients, y2.routers, y2.relay, y2.mail, y2.now, A4_i64.set y2.seen (a1).toNat y2.now, A4_bool.set y2.late (a1).toNat true, y2.since, y2.told, y2.keys, y2.digests, y2.asked, y2.forged, y2.clash⟩ u5 u6 u7 u8 u9 u10 u11 u12 u13 u14 u15)) (fun _ h_ => by rw [hi124_]; first | exact h_ | (simp only [hi124_] at h_; exact h_)) <| .dnil ?_
                cases hj18
                exact .stj () (.cons Mm.m7 (.cons Mm.m8 (.cons Mm.m9 (.cons Mm.m10 .nil)))) (.of (.cons .k0 (.cons .k1 (.cons .k0 (.cons .k0 (.cons .k0 (.cons .k0 (.cons .k0 (.cons .k0 (.cons .k0 (.cons .k0 (.cons .k0 (.cons .k0 .nil))))))))))))) .nil
              · rw [if_neg (ne_true_of_eq_false c120)] at hj18
                refine .dpu rfl (.g rfl rfl .g0 rfl) (P.mov .t9) rfl rfl ?_
                obtain ⟨r125, hr126, hj18⟩ := bnd_eq hj18
                refine .dgo rfl (.g rfl rfl .g1 rfl) (G.call call77 (.cons .t0 .nil) (S_client_Client_Down_bx u7 r84.2.2 r125 hr126) (.cons .k3 .nil) .nil (fun _ _ => rfl) (fun _ _ => rfl) rfl) (.inl rfl) fun _ _ => .dpu rfl (.n rfl) (P.pickF .t1 .t0) rfl rfl ?_
                obtain ⟨x127, hx128, hj18⟩ := bnd_eq hj18
                obtain ⟨i129, hi130, hx128⟩ := at_eq hx128
                have hi130_ : (a1).toNat = i129 := by rw [hi130]; rfl
                refine .dpu rfl (.n rfl) (P.iad (i := i129) (off' := (17 + i129 * 1)) .t2 hi130 .t1 runUnderlying56 sizeOf4 (lt_of_get hx128) rfl) rfl rfl <| .dgo rfl (.n rfl) (G.str (cs' := (world_World.cs ⟨y2.setup, y2.sides, y2.clients, y2.routers, y2.relay, y2.mail, y2.now, A4_i64.set y2.seen (a1).toNat y2.now, A4_bool.set y2.late i129 r125, y2.since, y2.told, y2.keys, y2.digests, y2.asked, y2.forged, y2.clash⟩ u5 u6 u7 u8 u9 u10 u11 u12 u13 u14 u15)) .t1 .t0 .k1 (by rcases i129 with _ | _ | _ | _ | _ <;> first | (obtain rfl := Option.some.inj hx128; exact StV.mk sizeOf4 rfl rfl rfl rfl) | (cases hx128; done))) (.inl rfl) fun _ _ => .conseq .k0 (q := blk b4 58 (world_World.cs ⟨y2.setup, y2.sides, y2.clients, y2.routers, y2.relay, y2.mail, y2.now, A4_i64.set y2.seen (a1).toNat y2.now, A4_bool.set y2.late (a1).toNat r125, y2.since, y2.told, y2.keys, y2.digests, y2.asked, y2.forged, y2.clash⟩ u5 u6 u7 u8 u9 u10 u11 u12 u13 u14 u15)) (fun _ h_ => by rw [hi130_]; first | exact h_ | (simp only [hi130_] at h_; exact h_)) <| .dnil ?_
                cases hj18
                exact .stj () (.cons Mm.m6 (.cons Mm.m7 (.cons Mm.m8 (.cons Mm.m9 .nil)))) (.of (.cons .k0 (.cons .k2 (.cons .k1 (.cons .k0 (.cons .k0 (.cons .k0 (.cons .k0 (.cons .k0 (.cons .k0 (.cons .k0 (.cons .k0 (.cons .k0 .nil))))))))))))) .nil
        · rw [if_neg (ne_true_of_eq_false c79)] at hj18
          refine .skip ?_
          cases hj18
          exact .stj () (.cons Mm.m1 (.cons Mm.m2 (.cons Mm.m3 (.cons Mm.m4 .nil)))) (.of (.cons .k1 (.cons .k2 (.cons .k1 (.cons .k0 (.cons .k0 (.cons .k0 (.cons .k0 (.cons .k0 (.cons .k0 (.cons .k0 (.cons .k0 (.cons .k0 .nil))))))))))))) .nil
      · rw [if_neg (ne_true_of_eq_false c76)] at hj18
        refine .pkV (u := u8) .k0 (by rw [pk, if_neg (of_decide_eq_false c76), pk]) <| .pkV (u := u8) .k1 (by rw [pk, if_neg (of_decide_eq_false c76), pk]) ?_
        obtain ⟨r131, hr132, hj18⟩ := bnd_eq hj18
        refine .opg (G.call call77 (.cons .t0 .nil) (S_client_Client_Down_bx u8 y2.clients.a1 r131 hr132) (.cons .k4 .nil) .nil (fun _ _ => rfl) (fun _ _ => rfl) rfl) rfl fun _ _ => .opp (P.not .t0) rfl <| .nil <| .then <| .cond .t0 (fun c133 => ?_) (fun c133 => ?_)
        · rw [if_pos c133] at hj18
          refine .seq <| .draw 9 (.on 0 .pu (.on 1 .pu (.on 2 .pu (.on 3 .pu (.on 4 .pu (.on 6 .pu (.on 7 .pu (.on 5 .ld (.on 8 .pu (.on 9 .go .nl)))))))))) follows_mixed (.thn (.thn .body)) (by kernel_rfl) <| .dpu rfl (.n rfl) (P.mov .g3) rfl rfl <| .dpu rfl (.n rfl) (P.mov .g5) rfl rfl <| .dpu rfl (.n rfl) (P.mov .g5) rfl rfl <| .dpu rfl (.n rfl) (P.nilc .t0) rfl rfl <| .dpu rfl (.n rfl) (P.fa .t0 fa_58_6 rfl) rfl rfl <| .dpu rfl (.n rfl) (P.nilc .t2) rfl rfl <| .dpu rfl (.n rfl) (P.fa .t0 fa_58_7 rfl) rfl rfl <| .dld rfl (.n rfl) (V.ld (v := N y2.now) .t1 .k1 (.one isAgg3 rfl)) (fun _ h => h) rfl rfl ?_
          obtain ⟨x134, hx135, hj18⟩ := bnd_eq hj18
          obtain ⟨i136, hi137, hx135⟩ := at_eq hx135
          have hi137_ : (a1).toNat = i136 := by rw [hi137]; rfl
          refine .dpu rfl (.n rfl) (P.iad (i := i136) (off' := (13 + i136 * 1)) .t2 hi137 .t1 runUnderlying55 sizeOf3 (lt_of_get hx135) rfl) rfl rfl <| .dgo rfl (.n rfl) (G.str (cs' := (world_World.cs ⟨y2.setup, y2.sides, y2.clients, y2.routers, y2.relay, y2.mail, y2.now, A4_i64.set y2.seen i136 y2.now, y2.late, y2.since, y2.told, y2.keys, y2.digests, y2.asked, y2.forged, y2.clash⟩ u5 u6 u7 u8 u9 u10 u11 u12 u13 u14 u15)) .t1 .t0 .k1 (by rcases i136 with _ | _ | _ | _ | _ <;> first | (obtain rfl := Option.some.inj hx135; exact StV.mk sizeOf3 rfl rfl rfl rfl) | (cases hx135; done))) (.inl rfl) fun _ _ => .conseq .k0 (q := blk b4 58 (world_World.cs ⟨y2.setup, y2.sides, y2.clients, y2.routers, y2.relay, y2.mail, y2.now, A4_i64.set y2.seen (a1).toNat y2.now, y2.late, y2.since, y2.told, y2.keys, y2.digests, y2.asked, y2.forged, y2.clash⟩ u5 u6 u7 u8 u9 u10 u11 u12 u13 u14 u15)) (fun _ h_ => by rw [hi137_]; first | exact h_ | (simp only [hi137_] at h_; exact h_)) <| .dnil <| .then <| .seq <| .reg rfl <| .opp (P.mov .g0) rfl <| .opp (P.mov .g3) rfl <| .opp (P.mov .g3) rfl ?_
          obtain ⟨r138, hr139, hj18⟩ := bnd_eq hj18
          refine .opg (G.call call78 (.cons .t2 (.cons .t1 (.cons .t0 .nil))) (S_client_Client_Look_bx_bx_bx u8 y2.clients.a1 u5 y2.sides.a0 u6 y2.sides.a1 r138 hr139) (.cons .k1 (.cons .k1 (.cons .k1 .nil))) .nil (fun _ _ => rfl) (fun _ _ => rfl) rfl) rfl fun ⟨u140, u141⟩ _ => .opp (P.mov .t0) rfl <| .opp (P.ext (v := u140) .g0 rfl) rfl <| .opp (P.ext (v := u141) .t1 rfl) rfl <| .opp (P.asg .t1) rfl <| .opp (P.asg .t1) rfl <| .nil <| .then <| .seq <| .seq <| .reg rfl <| .opp (P.mov .t1) rfl ?_
          refine .op (V.lnl (n := r138.1.length) .g0 .k3 map_len runUnderlying117) rfl <| .opp (P.mov .k) rfl <| .nil <| .then <| .block <| .rounds 1 <| .rd <| .seq <| .reg rfl <| .opp (P.bin .g0 .g1 .lss) rfl <| .nil <| .then ?_
          refine .seq <| .cond .t0 (fun c142 => ?_) (fun c142 => ?_)
          · rw [if_pos c142] at hj18
            refine .skip <| .then <| .seq <| .block <| .seq <| .reg rfl ?_
            obtain ⟨x146, hx147, hj18⟩ := bnd_eq hj18
            obtain ⟨i148, hi149, hx147⟩ := at_eq hx147
            have hi149_ : (0 : Int).toNat = i148 := by rw [hi149]; rfl
            refine .ixql .k3 (map_get hx147) fun p143 q144 hq145 => .opp (P.ixi (i := i148) .g0 hi149 .g2 hq145 runUnderlying117 sizeOf176) rfl <| .op (V.ldxl0 (u := Ag (api_Message.cs x146)) .t0 hq145 .k3 (map_get hx147) (.agg isAgg176 sizeOf176 rfl rfl)) rfl <| .opx (X.alc (cs := (api_Message.cs ⟨0, ⟨0, 0, 0, 0, ⟨0, 0, 0, 0⟩, ⟨#[]⟩⟩, ⟨0, ⟨0, 0, 0, 0, ⟨0, 0, 0, 0⟩, ⟨#[]⟩⟩, ⟨0, 0, 0, 0⟩, 0, ⟨#[]⟩⟩, ⟨0, ⟨#[]⟩, 0, 0, 0, 0, ⟨#[]⟩⟩, ⟨⟨0, 0, 0, 0⟩, 0⟩, ⟨0, 0, 0, 0⟩, ⟨#[]⟩⟩)) zeroValue176 rfl) rfl fun b150 => .opg (G.str .t1 .g0 .k0 (.mk (cs' := (api_Message.cs x146)) sizeOf176 rfl rfl rfl rfl)) rfl fun _ _ => .nil <| .then <| .seq <| .draw 12 (.on 0 .pu (.on 1 .pu (.on 2 .pu (.on 4 .pu (.on 6 .pu (.on 8 .pu (.on 3 .ld (.on 5 .ld (.on 7 .ld (.on 9 .ld (.on 10 .pu (.on 11 .go .nl)))))))))))) follows_mixed (.thn (.inb (.thn (.thn (.inb (.thn (.thn .body))))))) (by kernel_rfl) <| .dpu rfl (.n rfl) (P.mov .g8) rfl rfl <| .dpu rfl (.n rfl) (P.nilc .t0) rfl rfl <| .dpu rfl (.n rfl) (P.fa .t0 fa_58_10 rfl) rfl rfl ?_
            refine .dpu rfl (.n rfl) (P.fa .g1 fa_176_3 rfl) rfl rfl <| .dpu rfl (.n rfl) (P.fa .g2 fa_176_5 rfl) rfl rfl <| .dpu rfl (.n rfl) (P.fa .g3 fa_176_6 rfl) rfl rfl <| .dld rfl (.n rfl) (V.ld (v := u13) .t3 .k6 (.one isAgg45 rfl)) (fun _ h => h) rfl rfl <| .dld rfl (.n rfl) (V.ld (v := Ag (api_Inv.cs x146.Inv)) .t3 .k0 (.agg isAgg79 sizeOf79 rfl rfl)) (fun _ h => h) rfl rfl <| .dld rfl (.n rfl) (V.ld (v := Ag (api_Wide.cs x146.Fee)) .t3 .k0 (.agg isAgg77 sizeOf77 rfl rfl)) (fun _ h => h) rfl rfl <| .dld rfl (.n rfl) (V.ld (v := .string x146.Sig) .t3 .k0 (.one isAgg9 rfl)) (fun _ h => h) rfl rfl <| .dpu rfl (.n rfl) (P.bld (v := Ag (world_word.cs ⟨x146.Inv, x146.Fee, x146.Sig⟩)) (.cons .t2 (.cons .t1 (.cons .t0 .nil))) (bld_run zeroValue178 runUnderlying178 pl_178 (by kernel_rfl))) rfl rfl ?_
            cases hj18
          · rw [if_neg (ne_true_of_eq_false c142)] at hj18
            refine .exit <| .thx <| .thx <| .inb <| .then <| .seq <| .seq <| .reg rfl <| .opp (P.mov .g3) rfl <| .op (V.lnl (n := r138.2.1.length) .g0 .k4 map_len runUnderlying118) rfl <| .opp (P.mov .k) rfl <| .nil ?_
            refine .then <| .block <| .rounds 1 <| .rd <| .seq <| .reg rfl <| .opp (P.bin .g0 .g1 .lss) rfl <| .nil <| .then <| .seq <| .cond .t0 (fun c155 => ?_) (fun c155 => ?_)
            · rw [if_pos c155] at hj18
              refine .skip <| .then <| .seq <| .block <| .seq <| .reg rfl ?_
              obtain ⟨x159, hx160, hj18⟩ := bnd_eq hj18
              obtain ⟨i161, hi162, hx160⟩ := at_eq hx160
              have hi162_ : (0 : Int).toNat = i161 := by rw [hi162]; rfl
              refine .ixql .k4 (map_get hx160) fun p156 q157 hq158 => .opp (P.ixi (i := i161) .g0 hi162 .g2 hq158 runUnderlying118 sizeOf181) rfl <| .op (V.ldxl0 (u := Ag (api_Send.cs x159)) .t0 hq158 .k4 (map_get hx160) (.agg isAgg181 sizeOf181 rfl rfl)) rfl <| .opx (X.alc (cs := (api_Send.cs ⟨0, ⟨0, 0, 0, 0, ⟨0, 0, 0, 0⟩, ⟨0, ⟨#[]⟩, 0, 0, 0, 0, ⟨#[]⟩⟩, ⟨⟨0, 0, 0, 0⟩, 0⟩, ⟨0, 0, 0, 0⟩, ⟨#[]⟩⟩⟩)) zeroValue181 rfl) rfl fun b163 => .opg (G.str .t1 .g0 .k0 (.mk (cs' := (api_Send.cs x159)) sizeOf181 rfl rfl rfl rfl)) rfl fun _ _ => .nil <| .then <| .draw 15 (.on 0 .pu (.on 1 .pu (.on 2 .pu (.on 4 .pu (.on 5 .pu (.on 7 .pu (.on 8 .pu (.on 10 .pu (.on 11 .pu (.on 3 .ld (.on 6 .ld (.on 9 .ld (.on 12 .ld (.on 13 .pu (.on 14 .go .nl))))))))))))))) follows_mixed (.inb (.thn (.thn (.inb (.thn (.thn .body)))))) (by kernel_rfl) <| .dpu rfl (.n rfl) (P.mov .g11) rfl rfl <| .dpu rfl (.n rfl) (P.nilc .t0) rfl rfl <| .dpu rfl (.n rfl) (P.fa .t0 fa_58_10 rfl) rfl rfl <| .dpu rfl (.n rfl) (P.fa .g1 fa_181_1 rfl) rfl rfl ?_
              refine .dpu rfl (.n rfl) (P.fa .t0 fa_83_5 rfl) rfl rfl <| .dpu rfl (.n rfl) (P.fa .g2 fa_181_1 rfl) rfl rfl <| .dpu rfl (.n rfl) (P.fa .t0 fa_83_7 rfl) rfl rfl <| .dpu rfl (.n rfl) (P.fa .t3 fa_181_1 rfl) rfl rfl <| .dpu rfl (.n rfl) (P.fa .t0 fa_83_8 rfl) rfl rfl <| .dld rfl (.n rfl) (V.ld (v := u13) .t3 .k6 (.one isAgg45 rfl)) (fun _ h => h) rfl rfl <| .dld rfl (.n rfl) (V.ld (v := Ag (api_Inv.cs x159.Tx.Inv)) .t3 .k0 (.agg isAgg79 sizeOf79 rfl rfl)) (fun _ h => h) rfl rfl <| .dld rfl (.n rfl) (V.ld (v := Ag (api_Wide.cs x159.Tx.Fee)) .t3 .k0 (.agg isAgg77 sizeOf77 rfl rfl)) (fun _ h => h) rfl rfl <| .dld rfl (.n rfl) (V.ld (v := .string x159.Tx.Sig) .t3 .k0 (.one isAgg9 rfl)) (fun _ h => h) rfl rfl <| .dpu rfl (.n rfl) (P.bld (v := Ag (world_word.cs ⟨x159.Tx.Inv, x159.Tx.Fee, x159.Tx.Sig⟩)) (.cons .t2 (.cons .t1 (.cons .t0 .nil))) (bld_run zeroValue178 runUnderlying178 pl_178 (by kernel_rfl))) rfl rfl ?_
              cases hj18
            · rw [if_neg (ne_true_of_eq_false c155)] at hj18
              refine .exit <| .thx <| .thx <| .inb <| .then <| .seq <| .reg rfl <| .opp (P.mov .g10) rfl <| .opp (P.mov .g12) rfl <| .opp (P.mov .t8) rfl ?_
              obtain ⟨r168, hr169, hj18⟩ := bnd_eq hj18
              refine .opg (G.calll call80 (.cons .t2 (.cons .t1 (.cons .t0 .nil))) (S_world_World_send b4 (⟨y2.setup, y2.sides, ⟨y2.clients.a0, r138.2.2⟩, y2.routers, y2.relay, y2.mail, y2.now, A4_i64.set y2.seen (a1).toNat y2.now, y2.late, y2.since, y2.told, y2.keys, y2.digests, y2.asked, y2.forged, y2.clash⟩ : world_World) u5 u6 u7 u8 u9 u10 u11 u12 u13 u14 u15 a1 u141 r138.2.1 r168 hr169) (.cons .k5 (.cons .k1 (.cons .k1 (.cons .k3 (.cons .k0 (.cons .k2 (.cons .k2 (.cons .k2 (.cons .k2 (.cons .k2 (.cons .k2 (.cons .k2 .nil)))))))))))) (.imp (List.mem_append_right _ Mm.m1) (fun _ => lst_rows) .nil) (fun _ _ => rfl) rfl) rfl fun _ _ => .drop .k0 <| .nil <| .then <| .draw 10 (.on 0 .pu (.on 1 .pu (.on 2 .pu (.on 3 .pu (.on 4 .pu (.on 5 .pu (.on 6 .pu (.on 12 .pu (.on 13 .pu (.on 7 .go (.on 8 .pu (.on 9 .pu (.on 10 .go (.on 11 .pu (.on 14 .pu (.on 15 .go .nl)))))))))))))))) follows_mixed (.thn .body) (by kernel_rfl) <| .dpu rfl (.n rfl) (P.mov .g9) rfl rfl <| .dpu rfl (.n rfl) (P.mov .g11) rfl rfl <| .dpu rfl (.n rfl) (P.mov .g11) rfl rfl <| .dpu rfl (.n rfl) (P.mov .g13) rfl rfl <| .dpu rfl (.n rfl) (P.nilc .t1) rfl rfl <| .dpu rfl (.n rfl) (P.fa .t0 fa_58_8 rfl) rfl rfl ?_
              obtain ⟨x170, hx171, hj18⟩ := bnd_eq hj18
              obtain ⟨i172, hi173, hx171⟩ := at_eq hx171
              have hi173_ : (a1).toNat = i172 := by rw [hi173]; rfl
              refine .dpu rfl (.n rfl) (P.iad (i := i172) (off' := (17 + i172 * 1)) .t1 hi173 .t0 runUnderlying56 sizeOf4 (lt_of_get hx171) rfl) rfl rfl <| .dpu rfl (.n rfl) (P.nilc .t2) rfl rfl <| .dpu rfl (.n rfl) (P.fa .t0 fa_58_8 rfl) rfl rfl <| .dgo rfl (.n rfl) (OpV.g (V.ld (v := Bo x170) .t1 .k0 (by rcases i172 with _ | _ | _ | _ | _ <;> first | (obtain rfl := Option.some.inj hx171; exact LdV.one isAgg4 rfl) | (cases hx171; done))) rfl) (.inr fun _ _ _ h => h) fun _ _ => .dpu rfl (.n rfl) (P.mov .t0) rfl rfl <| .split .k0 (fun c174 => ?_) (fun c174 => ?_)
              · rw [if_pos c174] at hj18
                refine .dsk rfl (.g rfl rfl .g0 rfl) rfl rfl <| .dskg rfl (.g rfl rfl .g0 rfl) (.inl rfl) rfl rfl <| .dpu rfl (.n rfl) (P.pickT .t0 .k) rfl rfl ?_
                obtain ⟨x175, hx176, hj18⟩ := bnd_eq hj18
                obtain ⟨i177, hi178, hx176⟩ := at_eq hx176
                have hi178_ : (a1).toNat = i177 := by rw [hi178]; rfl
                refine .dpu rfl (.n rfl) (P.iad (i := i177) (off' := (17 + i177 * 1)) .t2 hi178 .t1 runUnderlying56 sizeOf4 (lt_of_get hx176) rfl) rfl rfl <| .dgo rfl (.n rfl) (G.str (cs' := (world_World.cs ⟨y2.setup, y2.sides, y2.clients, y2.routers, y2.relay, y2.mail, y2.now, A4_i64.set y2.seen (a1).toNat y2.now, A4_bool.set y2.late i177 true, y2.since, y2.told, y2.keys, y2.digests, y2.asked, y2.forged, y2.clash⟩ u5 u6 u7 u8 u9 u10 u11 u12 u13 u14 u15)) .t1 .t0 .k0 (by rcases i177 with _ | _ | _ | _ | _ <;> first | (obtain rfl := Option.some.inj hx176; exact StV.mk sizeOf4 rfl rfl rfl rfl) | (cases hx176; done))) (.inl rfl) fun _ _ => .conseq .k0 (q := blk b4 58 (world_World.cs ⟨y2.setup, y2.sides, y2.clients, y2.routers, y2.relay, y2.mail, y2.now, A4_i64.set y2.seen (a1).toNat y2.now, A4_bool.set y2.late (a1).toNat true, y2.since, y2.told, y2.keys, y2.digests, y2.asked, y2.forged, y2.clash⟩ u5 u6 u7 u8 u9 u10 u11 u12 u13 u14 u15)) (fun _ h_ => by rw [hi178_]; first | exact h_ | (simp only [hi178_] at h_; exact h_)) <| .dnil ?_
                cases hj18
                exact .stj () (.cons Mm.m7 (.cons Mm.m8 (.cons Mm.m9 (.cons Mm.m10 .nil)))) (.of (.cons .k0 (.cons .k1 (.cons .k0 (.cons .k0 (.cons .k0 (.cons .k0 (.cons .k0 (.cons .k0 (.cons .k0 (.cons .k0 (.cons .k0 (.cons .k0 .nil))))))))))))) .nil
              · rw [if_neg (ne_true_of_eq_false c174)] at hj18
                refine .dpu rfl (.g rfl rfl .g0 rfl) (P.mov .t9) rfl rfl ?_
                obtain ⟨r179, hr180, hj18⟩ := bnd_eq hj18
                refine .dgo rfl (.g rfl rfl .g1 rfl) (G.call call77 (.cons .t0 .nil) (S_client_Client_Down_bx u8 r138.2.2 r179 hr180) (.cons .k4 .nil) .nil (fun _ _ => rfl) (fun _ _ => rfl) rfl) (.inl rfl) fun _ _ => .dpu rfl (.n rfl) (P.pickF .t1 .t0) rfl rfl ?_
                obtain ⟨x181, hx182, hj18⟩ := bnd_eq hj18
                obtain ⟨i183, hi184, hx182⟩ := at_eq hx182
                have hi184_ : (a1).toNat = i183 := by rw [hi184]; rfl
                refine .dpu rfl (.n rfl) (P.iad (i := i183) (off' := (17 + i183 * 1)) .t2 hi184 .t1 runUnderlying56 sizeOf4 (lt_of_get hx182) rfl) rfl rfl <| .dgo rfl (.n rfl) (G.str (cs' := (world_World.cs ⟨y2.setup, y2.sides, y2.clients, y2.routers, y2.relay, y2.mail, y2.now, A4_i64.set y2.seen (a1).toNat y2.now, A4_bool.set y2.late i183 r179, y2.since, y2.told, y2.keys, y2.digests, y2.asked, y2.forged, y2.clash⟩ u5 u6 u7 u8 u9 u10 u11 u12 u13 u14 u15)) .t1 .t0 .k1 (by rcases i183 with _ | _ | _ | _ | _ <;> first | (obtain rfl := Option.some.inj hx182; exact StV.mk sizeOf4 rfl rfl rfl rfl) | (cases hx182; done))) (.inl rfl) fun _ _ => .conseq .k0 (q := blk b4 58 (world_World.cs ⟨y2.setup, y2.sides, y2.clients, y2.routers, y2.relay, y2.mail, y2.now, A4_i64.set y2.seen (a1).toNat y2.now, A4_bool.set y2.late (a1).toNat r179, y2.since, y2.told, y2.keys, y2.digests, y2.asked, y2.forged, y2.clash⟩ u5 u6 u7 u8 u9 u10 u11 u12 u13 u14 u15)) (fun _ h_ => by rw [hi184_]; first | exact h_ | (simp only [hi184_] at h_; exact h_)) <| .dnil ?_
                cases hj18
                exact .stj () (.cons Mm.m6 (.cons Mm.m7 (.cons Mm.m8 (.cons Mm.m9 .nil)))) (.of (.cons .k0 (.cons .k2 (.cons .k1 (.cons .k1 (.cons .k0 (.cons .k0 (.cons .k0 (.cons .k0 (.cons .k0 (.cons .k0 (.cons .k0 (.cons .k0 .nil))))))))))))) .nil
        · rw [if_neg (ne_true_of_eq_false c133)] at hj18
          refine .skip ?_
          cases hj18
          exact .stj () (.cons Mm.m1 (.cons Mm.m2 (.cons Mm.m3 (.cons Mm.m4 .nil)))) (.of (.cons .k1 (.cons .k2 (.cons .k1 (.cons .k1 (.cons .k0 (.cons .k0 (.cons .k0 (.cons .k0 (.cons .k0 (.cons .k0 (.cons .k0 (.cons .k0 .nil))))))))))))) .nil
  · clear hj18
    obtain ⟨y185, hj187, h⟩ := bnd_eq h
    refine .cutx (γ := Unit) (E1 := fun z186 => [(5, u6), (0, pt b4 0), (1, N a1)]) (L1 := fun z186 => [blk b4 58 (world_World.cs y185 u5 u6 u7 u8 u9 u10 u11 u12 u13 u14 u15), bx chain_Chain.bd chain_Chain.fp u6 y185.sides.a1, bx chain_Chain.bd chain_Chain.fp u5 y185.sides.a0, bx client_Client.bd client_Client.fp u7 y185.clients.a0, bx client_Client.bd client_Client.fp u8 y185.clients.a1, bx router_Router.bd router_Router.fp u9 y185.routers.a0, bx router_Router.bd router_Router.fp u10 y185.routers.a1, bx relay_Relay.bd relay_Relay.fp u11 y185.relay, mb (fun (x : world_place) => Ag x.cs) (fun (x : Int) => N x) u12 y185.since, mb (fun (x : world_word) => Ag x.cs) (fun (x : Bool) => Bo x) u13 y185.told, mb (fun (x : ByteArray) => Value.string x) (fun (x : api_Inv) => Ag x.cs) u14 y185.keys, mb (fun (x : ByteArray) => Value.string x) (fun (x : world_data) => Ag x.cs) u15 y185.digests]) (R1 := fun z186 => []) ?_ (fun z186 => ?_)
    · clear h
      refine .seq <| .reg rfl <| .opp (P.mov .g2) rfl <| .opp (P.mov .g4) rfl ?_
      obtain ⟨r188, hr189, hj187⟩ := bnd_eq hj187
      refine .opg (G.call call81 (.cons .t1 (.cons .t0 .nil)) (S_world_World_router b4 y16 u5 u6 u7 u8 u9 u10 u11 u12 u13 u14 u15 a1 r188 hr189) (.cons .k0 (.cons .k1 (.cons .k0 (.cons .k0 (.cons .k0 (.cons .k0 (.cons .k0 (.cons .k0 (.cons .k0 (.cons .k0 (.cons .k0 (.cons .k0 .nil)))))))))))) .nil (fun _ _ => rfl) (fun _ _ => rfl) rfl) rfl fun _ _ => .opp (P.asg .t0) rfl <| .nil <| .then <| .seq <| .reg rfl <| .opp (P.mov .g0) rfl <| .dec (r188 = 0) (fun c190 => ?_) (fun c190 => ?_)
      · rw [if_pos c190] at hj187
        refine .pkV (u := nilp) .k0 (by rw [of_decide_eq_true c190]; rfl) <| .pkV (u := nilp) .k1 (by rw [of_decide_eq_true c190]; rfl) <| .bxn router_Router.bd router_Router.fp ?_
        obtain ⟨r191, hr192, hj187⟩ := bnd_eq hj187
        refine .opg (G.call call82 (.cons .t1 .nil) (S_router_Router_Down_bx nilp none r191 hr192) (.cons .k0 .nil) .nil (fun _ _ => rfl) (fun _ _ => rfl) rfl) rfl fun _ _ => .opp (P.not .t0) rfl <| .nil <| .then <| .cond .t0 (fun c193 => ?_) (fun c193 => ?_)
        · rw [if_pos c193] at hj187
          refine .seq <| .draw 9 (.on 0 .pu (.on 1 .pu (.on 2 .pu (.on 3 .pu (.on 4 .pu (.on 6 .pu (.on 7 .pu (.on 5 .ld (.on 8 .pu (.on 9 .go .nl)))))))))) follows_mixed (.thn (.thn .body)) (by kernel_rfl) <| .dpu rfl (.n rfl) (P.mov .g3) rfl rfl <| .dpu rfl (.n rfl) (P.mov .g5) rfl rfl <| .dpu rfl (.n rfl) (P.mov .g5) rfl rfl <| .dpu rfl (.n rfl) (P.nilc .t0) rfl rfl <| .dpu rfl (.n rfl) (P.fa .t0 fa_58_6 rfl) rfl rfl <| .dpu rfl (.n rfl) (P.nilc .t2) rfl rfl <| .dpu rfl (.n rfl) (P.fa .t0 fa_58_7 rfl) rfl rfl <| .dld rfl (.n rfl) (V.ld (v := N y16.now) .t1 .k1 (.one isAgg3 rfl)) (fun _ h => h) rfl rfl ?_
          obtain ⟨x194, hx195, hj187⟩ := bnd_eq hj187
          obtain ⟨i196, hi197, hx195⟩ := at_eq hx195
          have hi197_ : (a1).toNat = i196 := by rw [hi197]; rfl
          refine .dpu rfl (.n rfl) (P.iad (i := i196) (off' := (13 + i196 * 1)) .t2 hi197 .t1 runUnderlying55 sizeOf3 (lt_of_get hx195) rfl) rfl rfl <| .dgo rfl (.n rfl) (G.str (cs' := (world_World.cs ⟨y16.setup, y16.sides, y16.clients, y16.routers, y16.relay, y16.mail, y16.now, A4_i64.set y16.seen i196 y16.now, y16.late, y16.since, y16.told, y16.keys, y16.digests, y16.asked, y16.forged, y16.clash⟩ u5 u6 u7 u8 u9 u10 u11 u12 u13 u14 u15)) .t1 .t0 .k1 (by rcases i196 with _ | _ | _ | _ | _ <;> first | (obtain rfl := Option.some.inj hx195; exact StV.mk sizeOf3 rfl rfl rfl rfl) | (cases hx195; done))) (.inl rfl) fun _ _ => .conseq .k0 (q := blk b4 58 (world_World.cs ⟨y16.setup, y16.sides, y16.clients, y16.routers, y16.relay, y16.mail, y16.now, A4_i64.set y16.seen (a1).toNat y16.now, y16.late, y16.since, y16.told, y16.keys, y16.digests, y16.asked, y16.forged, y16.clash⟩ u5 u6 u7 u8 u9 u10 u11 u12 u13 u14 u15)) (fun _ h_ => by rw [hi197_]; first | exact h_ | (simp only [hi197_] at h_; exact h_)) <| .dnil <| .then <| .seq <| .reg rfl <| .opp (P.mov .g0) rfl <| .opp (P.mov .t3) rfl <| .opp (P.mov .g3) rfl ?_
          obtain ⟨r198, hr199, hj187⟩ := bnd_eq hj187
          refine .opg (G.call call83 (.cons .t2 (.cons .t1 (.cons .t0 .nil))) (S_router_Router_Look_bx_bx_bx nilp none u5 y16.sides.a0 u6 y16.sides.a1 r198 hr199) (.cons .k1 (.cons .k1 (.cons .k1 .nil))) .nil (fun _ _ => rfl) (fun _ _ => rfl) rfl) rfl fun ⟨u200, u201⟩ _ => .conseq .k0 (q := bx router_Router.bd router_Router.fp nilp none) (fun _ h_ => bx_nilp h_) <| .opp (P.mov .t0) rfl <| .opp (P.ext (v := u200) .g0 rfl) rfl <| .opp (P.ext (v := u201) .t1 rfl) rfl <| .opp (P.asg .t1) rfl <| .opp (P.asg .t1) rfl <| .nil <| .then <| .seq <| .seq <| .reg rfl ?_
          refine .opp (P.mov .t1) rfl <| .op (V.lnl (n := r198.1.length) .g0 .k3 map_len runUnderlying117) rfl <| .opp (P.mov .k) rfl <| .nil <| .then <| .block <| .rounds 1 <| .rd <| .seq <| .reg rfl <| .opp (P.bin .g0 .g1 .lss) rfl <| .nil ?_
          refine .then <| .seq <| .cond .t0 (fun c202 => ?_) (fun c202 => ?_)
          · rw [if_pos c202] at hj187
            refine .skip <| .then <| .seq <| .block <| .seq <| .reg rfl ?_
            obtain ⟨x206, hx207, hj187⟩ := bnd_eq hj187
            obtain ⟨i208, hi209, hx207⟩ := at_eq hx207
            have hi209_ : (0 : Int).toNat = i208 := by rw [hi209]; rfl
            refine .ixql .k3 (map_get hx207) fun p203 q204 hq205 => .opp (P.ixi (i := i208) .g0 hi209 .g2 hq205 runUnderlying117 sizeOf176) rfl <| .op (V.ldxl0 (u := Ag (api_Message.cs x206)) .t0 hq205 .k3 (map_get hx207) (.agg isAgg176 sizeOf176 rfl rfl)) rfl <| .opx (X.alc (cs := (api_Message.cs ⟨0, ⟨0, 0, 0, 0, ⟨0, 0, 0, 0⟩, ⟨#[]⟩⟩, ⟨0, ⟨0, 0, 0, 0, ⟨0, 0, 0, 0⟩, ⟨#[]⟩⟩, ⟨0, 0, 0, 0⟩, 0, ⟨#[]⟩⟩, ⟨0, ⟨#[]⟩, 0, 0, 0, 0, ⟨#[]⟩⟩, ⟨⟨0, 0, 0, 0⟩, 0⟩, ⟨0, 0, 0, 0⟩, ⟨#[]⟩⟩)) zeroValue176 rfl) rfl fun b210 => .opg (G.str .t1 .g0 .k0 (.mk (cs' := (api_Message.cs x206)) sizeOf176 rfl rfl rfl rfl)) rfl fun _ _ => .nil <| .then <| .reg rfl <| .opp (P.mov .g7) rfl <| .opp (P.fa .g1 fa_176_2 rfl) rfl <| .opp (P.fa .t0 fa_174_1 rfl) rfl <| .opp (P.fa .t0 fa_172_0 rfl) rfl ?_
            refine .op (V.ld (v := N x206.Bid.Ask.User) .t0 .k0 (.one isAgg3 rfl)) rfl <| .op (V.ld (v := Ag (api_Message.cs x206)) .t2 .k0 (.agg isAgg176 sizeOf176 rfl rfl)) rfl ?_
            cases hj187
          · rw [if_neg (ne_true_of_eq_false c202)] at hj187
            refine .exit <| .thx <| .thx <| .inb <| .then <| .seq <| .reg rfl <| .opp (P.mov .g6) rfl <| .opp (P.mov .g8) rfl <| .opp (P.mov .t5) rfl <| .frz .k4 ?_
            obtain ⟨r211, hr212, hj187⟩ := bnd_eq hj187
            refine .opg (G.call call80 (.cons .t2 (.cons .t1 (.cons .t0 .nil))) (S_world_World_send b4 (⟨y16.setup, y16.sides, y16.clients, y16.routers, y16.relay, y16.mail, y16.now, A4_i64.set y16.seen (a1).toNat y16.now, y16.late, y16.since, y16.told, y16.keys, y16.digests, y16.asked, y16.forged, y16.clash⟩ : world_World) u5 u6 u7 u8 u9 u10 u11 u12 u13 u14 u15 a1 u201 r198.2.1 r211 hr212) (.cons .k4 (.cons .k1 (.cons .k1 (.cons .k2 (.cons .k2 (.cons .k2 (.cons .k2 (.cons .k2 (.cons .k2 (.cons .k2 (.cons .k2 (.cons .k2 .nil)))))))))))) (.cons Mm.m0 .nil) (fun _ _ => rfl) (fun _ _ => rfl) rfl) rfl fun _ _ => .drop .k0 <| .nil <| .then <| .draw 10 (.on 0 .pu (.on 1 .pu (.on 2 .pu (.on 3 .pu (.on 4 .pu (.on 5 .pu (.on 6 .pu (.on 12 .pu (.on 13 .pu (.on 7 .go (.on 8 .pu (.on 9 .pu (.on 10 .go (.on 11 .pu (.on 14 .pu (.on 15 .go .nl)))))))))))))))) follows_mixed (.thn .body) (by kernel_rfl) <| .dpu rfl (.n rfl) (P.mov .g5) rfl rfl <| .dpu rfl (.n rfl) (P.mov .g7) rfl rfl <| .dpu rfl (.n rfl) (P.mov .g7) rfl rfl <| .dpu rfl (.n rfl) (P.mov .g9) rfl rfl <| .dpu rfl (.n rfl) (P.nilc .t1) rfl rfl <| .dpu rfl (.n rfl) (P.fa .t0 fa_58_8 rfl) rfl rfl ?_
            obtain ⟨x213, hx214, hj187⟩ := bnd_eq hj187
            obtain ⟨i215, hi216, hx214⟩ := at_eq hx214
            have hi216_ : (a1).toNat = i215 := by rw [hi216]; rfl
            refine .dpu rfl (.n rfl) (P.iad (i := i215) (off' := (17 + i215 * 1)) .t1 hi216 .t0 runUnderlying56 sizeOf4 (lt_of_get hx214) rfl) rfl rfl <| .dpu rfl (.n rfl) (P.nilc .t2) rfl rfl <| .dpu rfl (.n rfl) (P.fa .t0 fa_58_8 rfl) rfl rfl <| .dgo rfl (.n rfl) (OpV.g (V.ld (v := Bo x213) .t1 .k0 (by rcases i215 with _ | _ | _ | _ | _ <;> first | (obtain rfl := Option.some.inj hx214; exact LdV.one isAgg4 rfl) | (cases hx214; done))) rfl) (.inr fun _ _ _ h => h) fun _ _ => .dpu rfl (.n rfl) (P.mov .t0) rfl rfl <| .split .k0 (fun c217 => ?_) (fun c217 => ?_)
            · rw [if_pos c217] at hj187
              refine .dsk rfl (.g rfl rfl .g0 rfl) rfl rfl <| .dskg rfl (.g rfl rfl .g0 rfl) (.inl rfl) rfl rfl <| .dpu rfl (.n rfl) (P.pickT .t0 .k) rfl rfl ?_
              obtain ⟨x218, hx219, hj187⟩ := bnd_eq hj187
              obtain ⟨i220, hi221, hx219⟩ := at_eq hx219
              have hi221_ : (a1).toNat = i220 := by rw [hi221]; rfl
              refine .dpu rfl (.n rfl) (P.iad (i := i220) (off' := (17 + i220 * 1)) .t2 hi221 .t1 runUnderlying56 sizeOf4 (lt_of_get hx219) rfl) rfl rfl <| .dgo rfl (.n rfl) (G.str (cs' := (world_World.cs ⟨y16.setup, y16.sides, y16.clients, y16.routers, y16.relay, y16.mail, y16.now, A4_i64.set y16.seen (a1).toNat y16.now, A4_bool.set y16.late i220 true, y16.since, y16.told, y16.keys, y16.digests, y16.asked, y16.forged, y16.clash⟩ u5 u6 u7 u8 u9 u10 u11 u12 u13 u14 u15)) .t1 .t0 .k0 (by rcases i220 with _ | _ | _ | _ | _ <;> first | (obtain rfl := Option.some.inj hx219; exact StV.mk sizeOf4 rfl rfl rfl rfl) | (cases hx219; done))) (.inl rfl) fun _ _ => .conseq .k0 (q := blk b4 58 (world_World.cs ⟨y16.setup, y16.sides, y16.clients, y16.routers, y16.relay, y16.mail, y16.now, A4_i64.set y16.seen (a1).toNat y16.now, A4_bool.set y16.late (a1).toNat true, y16.since, y16.told, y16.keys, y16.digests, y16.asked, y16.forged, y16.clash⟩ u5 u6 u7 u8 u9 u10 u11 u12 u13 u14 u15)) (fun _ h_ => by rw [hi221_]; first | exact h_ | (simp only [hi221_] at h_; exact h_)) <| .dnil ?_
              cases hj187
              exact .stj () (.cons Mm.m4 (.cons Mm.m5 (.cons Mm.m6 .nil))) (.of (.cons .k0 (.cons .k1 (.cons .k0 (.cons .k0 (.cons .k0 (.cons .k0 (.cons .k0 (.cons .k0 (.cons .k0 (.cons .k0 (.cons .k0 (.cons .k0 .nil))))))))))))) .nil
            · rw [if_neg (ne_true_of_eq_false c217)] at hj187
              refine .dpu rfl (.g rfl rfl .g0 rfl) (P.mov .t6) rfl rfl ?_
              obtain ⟨r222, hr223, hj187⟩ := bnd_eq hj187
              refine .dgo rfl (.g rfl rfl .g1 rfl) (G.call call82 (.cons .t0 .nil) (S_router_Router_Down_bx nilp none r222 hr223) (.cons .k12 .nil) .nil (fun _ _ => rfl) (fun _ _ => rfl) rfl) (.inl rfl) fun _ _ => .dpu rfl (.n rfl) (P.pickF .t1 .t0) rfl rfl ?_
              obtain ⟨x224, hx225, hj187⟩ := bnd_eq hj187
              obtain ⟨i226, hi227, hx225⟩ := at_eq hx225
              have hi227_ : (a1).toNat = i226 := by rw [hi227]; rfl
              refine .dpu rfl (.n rfl) (P.iad (i := i226) (off' := (17 + i226 * 1)) .t2 hi227 .t1 runUnderlying56 sizeOf4 (lt_of_get hx225) rfl) rfl rfl <| .dgo rfl (.n rfl) (G.str (cs' := (world_World.cs ⟨y16.setup, y16.sides, y16.clients, y16.routers, y16.relay, y16.mail, y16.now, A4_i64.set y16.seen (a1).toNat y16.now, A4_bool.set y16.late i226 r222, y16.since, y16.told, y16.keys, y16.digests, y16.asked, y16.forged, y16.clash⟩ u5 u6 u7 u8 u9 u10 u11 u12 u13 u14 u15)) .t1 .t0 .k1 (by rcases i226 with _ | _ | _ | _ | _ <;> first | (obtain rfl := Option.some.inj hx225; exact StV.mk sizeOf4 rfl rfl rfl rfl) | (cases hx225; done))) (.inl rfl) fun _ _ => .conseq .k0 (q := blk b4 58 (world_World.cs ⟨y16.setup, y16.sides, y16.clients, y16.routers, y16.relay, y16.mail, y16.now, A4_i64.set y16.seen (a1).toNat y16.now, A4_bool.set y16.late (a1).toNat r222, y16.since, y16.told, y16.keys, y16.digests, y16.asked, y16.forged, y16.clash⟩ u5 u6 u7 u8 u9 u10 u11 u12 u13 u14 u15)) (fun _ h_ => by rw [hi227_]; first | exact h_ | (simp only [hi227_] at h_; exact h_)) <| .dnil ?_
              cases hj187
              exact .stj () (.cons Mm.m3 (.cons Mm.m4 (.cons Mm.m5 .nil))) (.of (.cons .k0 (.cons .k2 (.cons .k1 (.cons .k1 (.cons .k1 (.cons .k1 (.cons .k1 (.cons .k1 (.cons .k1 (.cons .k1 (.cons .k1 (.cons .k1 .nil))))))))))))) .nil
        · rw [if_neg (ne_true_of_eq_false c193)] at hj187
          refine .skip ?_
          cases hj187
          exact .stj () (.cons Mm.m1 (.cons Mm.m3 (.cons Mm.m4 .nil))) (.of (.cons .k1 (.cons .k2 (.cons .k1 (.cons .k1 (.cons .k1 (.cons .k1 (.cons .k1 (.cons .k1 (.cons .k1 (.cons .k1 (.cons .k1 (.cons .k1 .nil))))))))))))) .nil
      · rw [if_neg (ne_true_of_eq_false c190)] at hj187
        refine .pkV (u := pk r188 1 [u9, u10]) .k0 (by rw [pk, if_neg (of_decide_eq_false c190)]) <| .pkV (u := pk r188 1 [u9, u10]) .k1 (by rw [pk, if_neg (of_decide_eq_false c190)]) <| .dec (r188 = 1) (fun c228 => ?_) (fun c228 => ?_)
        · rw [if_pos c228] at hj187
          refine .pkV (u := u9) .k0 (by rw [of_decide_eq_true c228]; rfl) <| .pkV (u := u9) .k1 (by rw [of_decide_eq_true c228]; rfl) ?_
          obtain ⟨r229, hr230, hj187⟩ := bnd_eq hj187
          refine .opg (G.call call82 (.cons .t0 .nil) (S_router_Router_Down_bx u9 y16.routers.a0 r229 hr230) (.cons .k5 .nil) .nil (fun _ _ => rfl) (fun _ _ => rfl) rfl) rfl fun _ _ => .opp (P.not .t0) rfl <| .nil <| .then <| .cond .t0 (fun c231 => ?_) (fun c231 => ?_)
          · rw [if_pos c231] at hj187
            refine .seq <| .draw 9 (.on 0 .pu (.on 1 .pu (.on 2 .pu (.on 3 .pu (.on 4 .pu (.on 6 .pu (.on 7 .pu (.on 5 .ld (.on 8 .pu (.on 9 .go .nl)))))))))) follows_mixed (.thn (.thn .body)) (by kernel_rfl) <| .dpu rfl (.n rfl) (P.mov .g3) rfl rfl <| .dpu rfl (.n rfl) (P.mov .g5) rfl rfl <| .dpu rfl (.n rfl) (P.mov .g5) rfl rfl <| .dpu rfl (.n rfl) (P.nilc .t0) rfl rfl <| .dpu rfl (.n rfl) (P.fa .t0 fa_58_6 rfl) rfl rfl <| .dpu rfl (.n rfl) (P.nilc .t2) rfl rfl <| .dpu rfl (.n rfl) (P.fa .t0 fa_58_7 rfl) rfl rfl <| .dld rfl (.n rfl) (V.ld (v := N y16.now) .t1 .k1 (.one isAgg3 rfl)) (fun _ h => h) rfl rfl ?_
            obtain ⟨x232, hx233, hj187⟩ := bnd_eq hj187
            obtain ⟨i234, hi235, hx233⟩ := at_eq hx233
            have hi235_ : (a1).toNat = i234 := by rw [hi235]; rfl
            refine .dpu rfl (.n rfl) (P.iad (i := i234) (off' := (13 + i234 * 1)) .t2 hi235 .t1 runUnderlying55 sizeOf3 (lt_of_get hx233) rfl) rfl rfl <| .dgo rfl (.n rfl) (G.str (cs' := (world_World.cs ⟨y16.setup, y16.sides, y16.clients, y16.routers, y16.relay, y16.mail, y16.now, A4_i64.set y16.seen i234 y16.now, y16.late, y16.since, y16.told, y16.keys, y16.digests, y16.asked, y16.forged, y16.clash⟩ u5 u6 u7 u8 u9 u10 u11 u12 u13 u14 u15)) .t1 .t0 .k1 (by rcases i234 with _ | _ | _ | _ | _ <;> first | (obtain rfl := Option.some.inj hx233; exact StV.mk sizeOf3 rfl rfl rfl rfl) | (cases hx233; done))) (.inl rfl) fun _ _ => .conseq .k0 (q := blk b4 58 (world_World.cs ⟨y16.setup, y16.sides, y16.clients, y16.routers, y16.relay, y16.mail, y16.now, A4_i64.set y16.seen (a1).toNat y16.now, y16.late, y16.since, y16.told, y16.keys, y16.digests, y16.asked, y16.forged, y16.clash⟩ u5 u6 u7 u8 u9 u10 u11 u12 u13 u14 u15)) (fun _ h_ => by rw [hi235_]; first | exact h_ | (simp only [hi235_] at h_; exact h_)) <| .dnil <| .then <| .seq <| .reg rfl <| .opp (P.mov .g0) rfl <| .opp (P.mov .t3) rfl <| .opp (P.mov .g3) rfl ?_
            obtain ⟨r236, hr237, hj187⟩ := bnd_eq hj187
            refine .opg (G.call call83 (.cons .t2 (.cons .t1 (.cons .t0 .nil))) (S_router_Router_Look_bx_bx_bx u9 y16.routers.a0 u5 y16.sides.a0 u6 y16.sides.a1 r236 hr237) (.cons .k1 (.cons .k1 (.cons .k1 .nil))) .nil (fun _ _ => rfl) (fun _ _ => rfl) rfl) rfl fun ⟨u238, u239⟩ _ => .opp (P.mov .t0) rfl <| .opp (P.ext (v := u238) .g0 rfl) rfl <| .opp (P.ext (v := u239) .t1 rfl) rfl <| .opp (P.asg .t1) rfl <| .opp (P.asg .t1) rfl <| .nil <| .then <| .seq <| .seq <| .reg rfl <| .opp (P.mov .t1) rfl ?_
            refine .op (V.lnl (n := r236.1.length) .g0 .k3 map_len runUnderlying117) rfl <| .opp (P.mov .k) rfl <| .nil <| .then <| .block <| .rounds 1 <| .rd <| .seq <| .reg rfl <| .opp (P.bin .g0 .g1 .lss) rfl <| .nil <| .then ?_
            refine .seq <| .cond .t0 (fun c240 => ?_) (fun c240 => ?_)
            · rw [if_pos c240] at hj187
              refine .skip <| .then <| .seq <| .block <| .seq <| .reg rfl ?_
              obtain ⟨x244, hx245, hj187⟩ := bnd_eq hj187
              obtain ⟨i246, hi247, hx245⟩ := at_eq hx245
              have hi247_ : (0 : Int).toNat = i246 := by rw [hi247]; rfl
              refine .ixql .k3 (map_get hx245) fun p241 q242 hq243 => .opp (P.ixi (i := i246) .g0 hi247 .g2 hq243 runUnderlying117 sizeOf176) rfl <| .op (V.ldxl0 (u := Ag (api_Message.cs x244)) .t0 hq243 .k3 (map_get hx245) (.agg isAgg176 sizeOf176 rfl rfl)) rfl <| .opx (X.alc (cs := (api_Message.cs ⟨0, ⟨0, 0, 0, 0, ⟨0, 0, 0, 0⟩, ⟨#[]⟩⟩, ⟨0, ⟨0, 0, 0, 0, ⟨0, 0, 0, 0⟩, ⟨#[]⟩⟩, ⟨0, 0, 0, 0⟩, 0, ⟨#[]⟩⟩, ⟨0, ⟨#[]⟩, 0, 0, 0, 0, ⟨#[]⟩⟩, ⟨⟨0, 0, 0, 0⟩, 0⟩, ⟨0, 0, 0, 0⟩, ⟨#[]⟩⟩)) zeroValue176 rfl) rfl fun b248 => .opg (G.str .t1 .g0 .k0 (.mk (cs' := (api_Message.cs x244)) sizeOf176 rfl rfl rfl rfl)) rfl fun _ _ => .nil <| .then <| .reg rfl <| .opp (P.mov .g7) rfl <| .opp (P.fa .g1 fa_176_2 rfl) rfl <| .opp (P.fa .t0 fa_174_1 rfl) rfl <| .opp (P.fa .t0 fa_172_0 rfl) rfl ?_
              refine .op (V.ld (v := N x244.Bid.Ask.User) .t0 .k0 (.one isAgg3 rfl)) rfl <| .op (V.ld (v := Ag (api_Message.cs x244)) .t2 .k0 (.agg isAgg176 sizeOf176 rfl rfl)) rfl ?_
              cases hj187
            · rw [if_neg (ne_true_of_eq_false c240)] at hj187
              refine .exit <| .thx <| .thx <| .inb <| .then <| .seq <| .reg rfl <| .opp (P.mov .g6) rfl <| .opp (P.mov .g8) rfl <| .opp (P.mov .t5) rfl <| .frz .k4 ?_
              obtain ⟨r249, hr250, hj187⟩ := bnd_eq hj187
              refine .opg (G.call call80 (.cons .t2 (.cons .t1 (.cons .t0 .nil))) (S_world_World_send b4 (⟨y16.setup, y16.sides, y16.clients, ⟨r236.2.2, y16.routers.a1⟩, y16.relay, y16.mail, y16.now, A4_i64.set y16.seen (a1).toNat y16.now, y16.late, y16.since, y16.told, y16.keys, y16.digests, y16.asked, y16.forged, y16.clash⟩ : world_World) u5 u6 u7 u8 u9 u10 u11 u12 u13 u14 u15 a1 u239 r236.2.1 r249 hr250) (.cons .k4 (.cons .k1 (.cons .k1 (.cons .k2 (.cons .k2 (.cons .k0 (.cons .k1 (.cons .k1 (.cons .k1 (.cons .k1 (.cons .k1 (.cons .k1 .nil)))))))))))) (.cons Mm.m0 .nil) (fun _ _ => rfl) (fun _ _ => rfl) rfl) rfl fun _ _ => .drop .k0 <| .nil <| .then <| .draw 10 (.on 0 .pu (.on 1 .pu (.on 2 .pu (.on 3 .pu (.on 4 .pu (.on 5 .pu (.on 6 .pu (.on 12 .pu (.on 13 .pu (.on 7 .go (.on 8 .pu (.on 9 .pu (.on 10 .go (.on 11 .pu (.on 14 .pu (.on 15 .go .nl)))))))))))))))) follows_mixed (.thn .body) (by kernel_rfl) <| .dpu rfl (.n rfl) (P.mov .g5) rfl rfl <| .dpu rfl (.n rfl) (P.mov .g7) rfl rfl <| .dpu rfl (.n rfl) (P.mov .g7) rfl rfl <| .dpu rfl (.n rfl) (P.mov .g9) rfl rfl <| .dpu rfl (.n rfl) (P.nilc .t1) rfl rfl <| .dpu rfl (.n rfl) (P.fa .t0 fa_58_8 rfl) rfl rfl ?_
              obtain ⟨x251, hx252, hj187⟩ := bnd_eq hj187
              obtain ⟨i253, hi254, hx252⟩ := at_eq hx252
              have hi254_ : (a1).toNat = i253 := by rw [hi254]; rfl
              refine .dpu rfl (.n rfl) (P.iad (i := i253) (off' := (17 + i253 * 1)) .t1 hi254 .t0 runUnderlying56 sizeOf4 (lt_of_get hx252) rfl) rfl rfl <| .dpu rfl (.n rfl) (P.nilc .t2) rfl rfl <| .dpu rfl (.n rfl) (P.fa .t0 fa_58_8 rfl) rfl rfl <| .dgo rfl (.n rfl) (OpV.g (V.ld (v := Bo x251) .t1 .k0 (by rcases i253 with _ | _ | _ | _ | _ <;> first | (obtain rfl := Option.some.inj hx252; exact LdV.one isAgg4 rfl) | (cases hx252; done))) rfl) (.inr fun _ _ _ h => h) fun _ _ => .dpu rfl (.n rfl) (P.mov .t0) rfl rfl <| .split .k0 (fun c255 => ?_) (fun c255 => ?_)
              · rw [if_pos c255] at hj187
                refine .dsk rfl (.g rfl rfl .g0 rfl) rfl rfl <| .dskg rfl (.g rfl rfl .g0 rfl) (.inl rfl) rfl rfl <| .dpu rfl (.n rfl) (P.pickT .t0 .k) rfl rfl ?_
                obtain ⟨x256, hx257, hj187⟩ := bnd_eq hj187
                obtain ⟨i258, hi259, hx257⟩ := at_eq hx257
                have hi259_ : (a1).toNat = i258 := by rw [hi259]; rfl
                refine .dpu rfl (.n rfl) (P.iad (i := i258) (off' := (17 + i258 * 1)) .t2 hi259 .t1 runUnderlying56 sizeOf4 (lt_of_get hx257) rfl) rfl rfl <| .dgo rfl (.n rfl) (G.str (cs' := (world_World.cs ⟨y16.setup, y16.sides, y16.clients, y16.routers, y16.relay, y16.mail, y16.now, A4_i64.set y16.seen (a1).toNat y16.now, A4_bool.set y16.late i258 true, y16.since, y16.told, y16.keys, y16.digests, y16.asked, y16.forged, y16.clash⟩ u5 u6 u7 u8 u9 u10 u11 u12 u13 u14 u15)) .t1 .t0 .k0 (by rcases i258 with _ | _ | _ | _ | _ <;> first | (obtain rfl := Option.some.inj hx257; exact StV.mk sizeOf4 rfl rfl rfl rfl) | (cases hx257; done))) (.inl rfl) fun _ _ => .conseq .k0 (q := blk b4 58 (world_World.cs ⟨y16.setup, y16.sides, y16.clients, y16.routers, y16.relay, y16.mail, y16.now, A4_i64.set y16.seen (a1).toNat y16.now, A4_bool.set y16.late (a1).toNat true, y16.since, y16.told, y16.keys, y16.digests, y16.asked, y16.forged, y16.clash⟩ u5 u6 u7 u8 u9 u10 u11 u12 u13 u14 u15)) (fun _ h_ => by rw [hi259_]; first | exact h_ | (simp only [hi259_] at h_; exact h_)) <| .dnil ?_
                cases hj187
                exact .stj () (.cons Mm.m4 (.cons Mm.m5 (.cons Mm.m6 .nil))) (.of (.cons .k0 (.cons .k1 (.cons .k0 (.cons .k0 (.cons .k0 (.cons .k0 (.cons .k0 (.cons .k0 (.cons .k0 (.cons .k0 (.cons .k0 (.cons .k0 .nil))))))))))))) .nil
              · rw [if_neg (ne_true_of_eq_false c255)] at hj187
                refine .dpu rfl (.g rfl rfl .g0 rfl) (P.mov .t6) rfl rfl ?_
                obtain ⟨r260, hr261, hj187⟩ := bnd_eq hj187
                refine .dgo rfl (.g rfl rfl .g1 rfl) (G.call call82 (.cons .t0 .nil) (S_router_Router_Down_bx u9 r236.2.2 r260 hr261) (.cons .k5 .nil) .nil (fun _ _ => rfl) (fun _ _ => rfl) rfl) (.inl rfl) fun _ _ => .dpu rfl (.n rfl) (P.pickF .t1 .t0) rfl rfl ?_
                obtain ⟨x262, hx263, hj187⟩ := bnd_eq hj187
                obtain ⟨i264, hi265, hx263⟩ := at_eq hx263
                have hi265_ : (a1).toNat = i264 := by rw [hi265]; rfl
                refine .dpu rfl (.n rfl) (P.iad (i := i264) (off' := (17 + i264 * 1)) .t2 hi265 .t1 runUnderlying56 sizeOf4 (lt_of_get hx263) rfl) rfl rfl <| .dgo rfl (.n rfl) (G.str (cs' := (world_World.cs ⟨y16.setup, y16.sides, y16.clients, y16.routers, y16.relay, y16.mail, y16.now, A4_i64.set y16.seen (a1).toNat y16.now, A4_bool.set y16.late i264 r260, y16.since, y16.told, y16.keys, y16.digests, y16.asked, y16.forged, y16.clash⟩ u5 u6 u7 u8 u9 u10 u11 u12 u13 u14 u15)) .t1 .t0 .k1 (by rcases i264 with _ | _ | _ | _ | _ <;> first | (obtain rfl := Option.some.inj hx263; exact StV.mk sizeOf4 rfl rfl rfl rfl) | (cases hx263; done))) (.inl rfl) fun _ _ => .conseq .k0 (q := blk b4 58 (world_World.cs ⟨y16.setup, y16.sides, y16.clients, y16.routers, y16.relay, y16.mail, y16.now, A4_i64.set y16.seen (a1).toNat y16.now, A4_bool.set y16.late (a1).toNat r260, y16.since, y16.told, y16.keys, y16.digests, y16.asked, y16.forged, y16.clash⟩ u5 u6 u7 u8 u9 u10 u11 u12 u13 u14 u15)) (fun _ h_ => by rw [hi265_]; first | exact h_ | (simp only [hi265_] at h_; exact h_)) <| .dnil ?_
                cases hj187
                exact .stj () (.cons Mm.m3 (.cons Mm.m4 (.cons Mm.m5 .nil))) (.of (.cons .k0 (.cons .k2 (.cons .k1 (.cons .k1 (.cons .k1 (.cons .k0 (.cons .k0 (.cons .k0 (.cons .k0 (.cons .k0 (.cons .k0 (.cons .k0 .nil))))))))))))) .nil
          · rw [if_neg (ne_true_of_eq_false c231)] at hj187
            refine .skip ?_
            cases hj187
            exact .stj () (.cons Mm.m1 (.cons Mm.m3 (.cons Mm.m4 .nil))) (.of (.cons .k1 (.cons .k2 (.cons .k1 (.cons .k1 (.cons .k1 (.cons .k0 (.cons .k0 (.cons .k0 (.cons .k0 (.cons .k0 (.cons .k0 (.cons .k0 .nil))))))))))))) .nil
        · rw [if_neg (ne_true_of_eq_false c228)] at hj187
          refine .pkV (u := u10) .k0 (by rw [pk, if_neg (of_decide_eq_false c228), pk]) <| .pkV (u := u10) .k1 (by rw [pk, if_neg (of_decide_eq_false c228), pk]) ?_
          obtain ⟨r266, hr267, hj187⟩ := bnd_eq hj187
          refine .opg (G.call call82 (.cons .t0 .nil) (S_router_Router_Down_bx u10 y16.routers.a1 r266 hr267) (.cons .k6 .nil) .nil (fun _ _ => rfl) (fun _ _ => rfl) rfl) rfl fun _ _ => .opp (P.not .t0) rfl <| .nil <| .then <| .cond .t0 (fun c268 => ?_) (fun c268 => ?_)
          · rw [if_pos c268] at hj187
            refine .seq <| .draw 9 (.on 0 .pu (.on 1 .pu (.on 2 .pu (.on 3 .pu (.on 4 .pu (.on 6 .pu (.on 7 .pu (.on 5 .ld (.on 8 .pu (.on 9 .go .nl)))))))))) follows_mixed (.thn (.thn .body)) (by kernel_rfl) <| .dpu rfl (.n rfl) (P.mov .g3) rfl rfl <| .dpu rfl (.n rfl) (P.mov .g5) rfl rfl <| .dpu rfl (.n rfl) (P.mov .g5) rfl rfl <| .dpu rfl (.n rfl) (P.nilc .t0) rfl rfl <| .dpu rfl (.n rfl) (P.fa .t0 fa_58_6 rfl) rfl rfl <| .dpu rfl (.n rfl) (P.nilc .t2) rfl rfl <| .dpu rfl (.n rfl) (P.fa .t0 fa_58_7 rfl) rfl rfl <| .dld rfl (.n rfl) (V.ld (v := N y16.now) .t1 .k1 (.one isAgg3 rfl)) (fun _ h => h) rfl rfl ?_
            obtain ⟨x269, hx270, hj187⟩ := bnd_eq hj187
            obtain ⟨i271, hi272, hx270⟩ := at_eq hx270
            have hi272_ : (a1).toNat = i271 := by rw [hi272]; rfl
            refine .dpu rfl (.n rfl) (P.iad (i := i271) (off' := (13 + i271 * 1)) .t2 hi272 .t1 runUnderlying55 sizeOf3 (lt_of_get hx270) rfl) rfl rfl <| .dgo rfl (.n rfl) (G.str (cs' := (world_World.cs ⟨y16.setup, y16.sides, y16.clients, y16.routers, y16.relay, y16.mail, y16.now, A4_i64.set y16.seen i271 y16.now, y16.late, y16.since, y16.told, y16.keys, y16.digests, y16.asked, y16.forged, y16.clash⟩ u5 u6 u7 u8 u9 u10 u11 u12 u13 u14 u15)) .t1 .t0 .k1 (by rcases i271 with _ | _ | _ | _ | _ <;> first | (obtain rfl := Option.some.inj hx270; exact StV.mk sizeOf3 rfl rfl rfl rfl) | (cases hx270; done))) (.inl rfl) fun _ _ => .conseq .k0 (q := blk b4 58 (world_World.cs ⟨y16.setup, y16.sides, y16.clients, y16.routers, y16.relay, y16.mail, y16.now, A4_i64.set y16.seen (a1).toNat y16.now, y16.late, y16.since, y16.told, y16.keys, y16.digests, y16.asked, y16.forged, y16.clash⟩ u5 u6 u7 u8 u9 u10 u11 u12 u13 u14 u15)) (fun _ h_ => by rw [hi272_]; first | exact h_ | (simp only [hi272_] at h_; exact h_)) <| .dnil <| .then <| .seq <| .reg rfl <| .opp (P.mov .g0) rfl <| .opp (P.mov .t3) rfl <| .opp (P.mov .g3) rfl ?_
            obtain ⟨r273, hr274, hj187⟩ := bnd_eq hj187
            refine .opg (G.call call83 (.cons .t2 (.cons .t1 (.cons .t0 .nil))) (S_router_Router_Look_bx_bx_bx u10 y16.routers.a1 u5 y16.sides.a0 u6 y16.sides.a1 r273 hr274) (.cons .k1 (.cons .k1 (.cons .k1 .nil))) .nil (fun _ _ => rfl) (fun _ _ => rfl) rfl) rfl fun ⟨u275, u276⟩ _ => .opp (P.mov .t0) rfl <| .opp (P.ext (v := u275) .g0 rfl) rfl <| .opp (P.ext (v := u276) .t1 rfl) rfl <| .opp (P.asg .t1) rfl <| .opp (P.asg .t1) rfl <| .nil <| .then <| .seq <| .seq <| .reg rfl <| .opp (P.mov .t1) rfl ?_
            refine .op (V.lnl (n := r273.1.length) .g0 .k3 map_len runUnderlying117) rfl <| .opp (P.mov .k) rfl <| .nil <| .then <| .block <| .rounds 1 <| .rd <| .seq <| .reg rfl <| .opp (P.bin .g0 .g1 .lss) rfl <| .nil <| .then ?_
            refine .seq <| .cond .t0 (fun c277 => ?_) (fun c277 => ?_)
            · rw [if_pos c277] at hj187
              refine .skip <| .then <| .seq <| .block <| .seq <| .reg rfl ?_
              obtain ⟨x281, hx282, hj187⟩ := bnd_eq hj187
              obtain ⟨i283, hi284, hx282⟩ := at_eq hx282
              have hi284_ : (0 : Int).toNat = i283 := by rw [hi284]; rfl
              refine .ixql .k3 (map_get hx282) fun p278 q279 hq280 => .opp (P.ixi (i := i283) .g0 hi284 .g2 hq280 runUnderlying117 sizeOf176) rfl <| .op (V.ldxl0 (u := Ag (api_Message.cs x281)) .t0 hq280 .k3 (map_get hx282) (.agg isAgg176 sizeOf176 rfl rfl)) rfl <| .opx (X.alc (cs := (api_Message.cs ⟨0, ⟨0, 0, 0, 0, ⟨0, 0, 0, 0⟩, ⟨#[]⟩⟩, ⟨0, ⟨0, 0, 0, 0, ⟨0, 0, 0, 0⟩, ⟨#[]⟩⟩, ⟨0, 0, 0, 0⟩, 0, ⟨#[]⟩⟩, ⟨0, ⟨#[]⟩, 0, 0, 0, 0, ⟨#[]⟩⟩, ⟨⟨0, 0, 0, 0⟩, 0⟩, ⟨0, 0, 0, 0⟩, ⟨#[]⟩⟩)) zeroValue176 rfl) rfl fun b285 => .opg (G.str .t1 .g0 .k0 (.mk (cs' := (api_Message.cs x281)) sizeOf176 rfl rfl rfl rfl)) rfl fun _ _ => .nil <| .then <| .reg rfl <| .opp (P.mov .g7) rfl <| .opp (P.fa .g1 fa_176_2 rfl) rfl <| .opp (P.fa .t0 fa_174_1 rfl) rfl <| .opp (P.fa .t0 fa_172_0 rfl) rfl ?_
              refine .op (V.ld (v := N x281.Bid.Ask.User) .t0 .k0 (.one isAgg3 rfl)) rfl <| .op (V.ld (v := Ag (api_Message.cs x281)) .t2 .k0 (.agg isAgg176 sizeOf176 rfl rfl)) rfl ?_
              cases hj187
            · rw [if_neg (ne_true_of_eq_false c277)] at hj187
              refine .exit <| .thx <| .thx <| .inb <| .then <| .seq <| .reg rfl <| .opp (P.mov .g6) rfl <| .opp (P.mov .g8) rfl <| .opp (P.mov .t5) rfl <| .frz .k4 ?_
              obtain ⟨r286, hr287, hj187⟩ := bnd_eq hj187
              refine .opg (G.call call80 (.cons .t2 (.cons .t1 (.cons .t0 .nil))) (S_world_World_send b4 (⟨y16.setup, y16.sides, y16.clients, ⟨y16.routers.a0, r273.2.2⟩, y16.relay, y16.mail, y16.now, A4_i64.set y16.seen (a1).toNat y16.now, y16.late, y16.since, y16.told, y16.keys, y16.digests, y16.asked, y16.forged, y16.clash⟩ : world_World) u5 u6 u7 u8 u9 u10 u11 u12 u13 u14 u15 a1 u276 r273.2.1 r286 hr287) (.cons .k4 (.cons .k1 (.cons .k1 (.cons .k2 (.cons .k2 (.cons .k2 (.cons .k0 (.cons .k1 (.cons .k1 (.cons .k1 (.cons .k1 (.cons .k1 .nil)))))))))))) (.cons Mm.m0 .nil) (fun _ _ => rfl) (fun _ _ => rfl) rfl) rfl fun _ _ => .drop .k0 <| .nil <| .then <| .draw 10 (.on 0 .pu (.on 1 .pu (.on 2 .pu (.on 3 .pu (.on 4 .pu (.on 5 .pu (.on 6 .pu (.on 12 .pu (.on 13 .pu (.on 7 .go (.on 8 .pu (.on 9 .pu (.on 10 .go (.on 11 .pu (.on 14 .pu (.on 15 .go .nl)))))))))))))))) follows_mixed (.thn .body) (by kernel_rfl) <| .dpu rfl (.n rfl) (P.mov .g5) rfl rfl <| .dpu rfl (.n rfl) (P.mov .g7) rfl rfl <| .dpu rfl (.n rfl) (P.mov .g7) rfl rfl <| .dpu rfl (.n rfl) (P.mov .g9) rfl rfl <| .dpu rfl (.n rfl) (P.nilc .t1) rfl rfl <| .dpu rfl (.n rfl) (P.fa .t0 fa_58_8 rfl) rfl rfl ?_
              obtain ⟨x288, hx289, hj187⟩ := bnd_eq hj187
              obtain ⟨i290, hi291, hx289⟩ := at_eq hx289
              have hi291_ : (a1).toNat = i290 := by rw [hi291]; rfl
              refine .dpu rfl (.n rfl) (P.iad (i := i290) (off' := (17 + i290 * 1)) .t1 hi291 .t0 runUnderlying56 sizeOf4 (lt_of_get hx289) rfl) rfl rfl <| .dpu rfl (.n rfl) (P.nilc .t2) rfl rfl <| .dpu rfl (.n rfl) (P.fa .t0 fa_58_8 rfl) rfl rfl <| .dgo rfl (.n rfl) (OpV.g (V.ld (v := Bo x288) .t1 .k0 (by rcases i290 with _ | _ | _ | _ | _ <;> first | (obtain rfl := Option.some.inj hx289; exact LdV.one isAgg4 rfl) | (cases hx289; done))) rfl) (.inr fun _ _ _ h => h) fun _ _ => .dpu rfl (.n rfl) (P.mov .t0) rfl rfl <| .split .k0 (fun c292 => ?_) (fun c292 => ?_)
              · rw [if_pos c292] at hj187
                refine .dsk rfl (.g rfl rfl .g0 rfl) rfl rfl <| .dskg rfl (.g rfl rfl .g0 rfl) (.inl rfl) rfl rfl <| .dpu rfl (.n rfl) (P.pickT .t0 .k) rfl rfl ?_
                obtain ⟨x293, hx294, hj187⟩ := bnd_eq hj187
                obtain ⟨i295, hi296, hx294⟩ := at_eq hx294
                have hi296_ : (a1).toNat = i295 := by rw [hi296]; rfl
                refine .dpu rfl (.n rfl) (P.iad (i := i295) (off' := (17 + i295 * 1)) .t2 hi296 .t1 runUnderlying56 sizeOf4 (lt_of_get hx294) rfl) rfl rfl <| .dgo rfl (.n rfl) (G.str (cs' := (world_World.cs ⟨y16.setup, y16.sides, y16.clients, y16.routers, y16.relay, y16.mail, y16.now, A4_i64.set y16.seen (a1).toNat y16.now, A4_bool.set y16.late i295 true, y16.since, y16.told, y16.keys, y16.digests, y16.asked, y16.forged, y16.clash⟩ u5 u6 u7 u8 u9 u10 u11 u12 u13 u14 u15)) .t1 .t0 .k0 (by rcases i295 with _ | _ | _ | _ | _ <;> first | (obtain rfl := Option.some.inj hx294; exact StV.mk sizeOf4 rfl rfl rfl rfl) | (cases hx294; done))) (.inl rfl) fun _ _ => .conseq .k0 (q := blk b4 58 (world_World.cs ⟨y16.setup, y16.sides, y16.clients, y16.routers, y16.relay, y16.mail, y16.now, A4_i64.set y16.seen (a1).toNat y16.now, A4_bool.set y16.late (a1).toNat true, y16.since, y16.told, y16.keys, y16.digests, y16.asked, y16.forged, y16.clash⟩ u5 u6 u7 u8 u9 u10 u11 u12 u13 u14 u15)) (fun _ h_ => by rw [hi296_]; first | exact h_ | (simp only [hi296_] at h_; exact h_)) <| .dnil ?_
                cases hj187
                exact .stj () (.cons Mm.m4 (.cons Mm.m5 (.cons Mm.m6 .nil))) (.of (.cons .k0 (.cons .k1 (.cons .k0 (.cons .k0 (.cons .k0 (.cons .k0 (.cons .k0 (.cons .k0 (.cons .k0 (.cons .k0 (.cons .k0 (.cons .k0 .nil))))))))))))) .nil
              · rw [if_neg (ne_true_of_eq_false c292)] at hj187
                refine .dpu rfl (.g rfl rfl .g0 rfl) (P.mov .t6) rfl rfl ?_
                obtain ⟨r297, hr298, hj187⟩ := bnd_eq hj187
                refine .dgo rfl (.g rfl rfl .g1 rfl) (G.call call82 (.cons .t0 .nil) (S_router_Router_Down_bx u10 r273.2.2 r297 hr298) (.cons .k6 .nil) .nil (fun _ _ => rfl) (fun _ _ => rfl) rfl) (.inl rfl) fun _ _ => .dpu rfl (.n rfl) (P.pickF .t1 .t0) rfl rfl ?_
                obtain ⟨x299, hx300, hj187⟩ := bnd_eq hj187
                obtain ⟨i301, hi302, hx300⟩ := at_eq hx300
                have hi302_ : (a1).toNat = i301 := by rw [hi302]; rfl
                refine .dpu rfl (.n rfl) (P.iad (i := i301) (off' := (17 + i301 * 1)) .t2 hi302 .t1 runUnderlying56 sizeOf4 (lt_of_get hx300) rfl) rfl rfl <| .dgo rfl (.n rfl) (G.str (cs' := (world_World.cs ⟨y16.setup, y16.sides, y16.clients, y16.routers, y16.relay, y16.mail, y16.now, A4_i64.set y16.seen (a1).toNat y16.now, A4_bool.set y16.late i301 r297, y16.since, y16.told, y16.keys, y16.digests, y16.asked, y16.forged, y16.clash⟩ u5 u6 u7 u8 u9 u10 u11 u12 u13 u14 u15)) .t1 .t0 .k1 (by rcases i301 with _ | _ | _ | _ | _ <;> first | (obtain rfl := Option.some.inj hx300; exact StV.mk sizeOf4 rfl rfl rfl rfl) | (cases hx300; done))) (.inl rfl) fun _ _ => .conseq .k0 (q := blk b4 58 (world_World.cs ⟨y16.setup, y16.sides, y16.clients, y16.routers, y16.relay, y16.mail, y16.now, A4_i64.set y16.seen (a1).toNat y16.now, A4_bool.set y16.late (a1).toNat r297, y16.since, y16.told, y16.keys, y16.digests, y16.asked, y16.forged, y16.clash⟩ u5 u6 u7 u8 u9 u10 u11 u12 u13 u14 u15)) (fun _ h_ => by rw [hi302_]; first | exact h_ | (simp only [hi302_] at h_; exact h_)) <| .dnil ?_
                cases hj187
                exact .stj () (.cons Mm.m3 (.cons Mm.m4 (.cons Mm.m5 .nil))) (.of (.cons .k0 (.cons .k2 (.cons .k1 (.cons .k1 (.cons .k1 (.cons .k1 (.cons .k0 (.cons .k0 (.cons .k0 (.cons .k0 (.cons .k0 (.cons .k0 .nil))))))))))))) .nil
          · rw [if_neg (ne_true_of_eq_false c268)] at hj187
            refine .skip ?_
            cases hj187
            exact .stj () (.cons Mm.m1 (.cons Mm.m3 (.cons Mm.m4 .nil))) (.of (.cons .k1 (.cons .k2 (.cons .k1 (.cons .k1 (.cons .k1 (.cons .k1 (.cons .k0 (.cons .k0 (.cons .k0 (.cons .k0 (.cons .k0 (.cons .k0 .nil))))))))))))) .nil
    · clear hj187
      refine .seq <| .reg rfl <| .opp (P.mov .g2) rfl <| .opp (P.bin .t0 .k .eql) rfl <| .nil <| .then <| .cond .t0 (fun c303 => ?_) (fun c303 => ?_)
      · rw [if_pos c303] at h
        refine .reg rfl <| .opp (P.mov .g1) rfl <| .opp (P.mov .t3) rfl <| .opp (P.mov .t3) rfl <| .opp (P.nilc .t0) rfl <| .opp (P.fa .t0 fa_58_4 rfl) rfl <| .op (V.ld (v := u11) .t0 .k0 (.one isAgg53 rfl)) rfl <| .opp (P.mov .t3) rfl ?_
        obtain ⟨r304, hr305, h⟩ := bnd_eq h
        refine .opg (G.call call84 (.cons .t1 (.cons .t0 .nil)) (S_relay_Relay_Look_bx_bx u11 y185.relay u6 y185.sides.a1 r304 hr305) (.cons .k7 (.cons .k1 .nil)) .nil (fun _ _ => rfl) (fun _ _ => rfl) rfl) rfl fun u306 _ => .frz .k2 ?_
        obtain ⟨r307, hr308, h⟩ := bnd_eq h
        refine .opg (G.call call80 (.cons .t2 (.cons .t1 (.cons .t0 .nil))) (S_world_World_send b4 y185 u5 u6 u7 u8 u9 u10 u11 u12 u13 u14 u15 a1 u306 r304 r307 hr308) (.cons .k2 (.cons .k2 (.cons .k1 (.cons .k1 (.cons .k1 (.cons .k1 (.cons .k1 (.cons .k0 (.cons .k0 (.cons .k0 (.cons .k0 (.cons .k0 .nil)))))))))))) (.cons Mm.m0 .nil) (fun _ _ => rfl) (fun _ _ => rfl) rfl) rfl fun _ _ => .drop .k0 <| .nil ?_
        cases h
        exact .bxc world_World.bd world_World.fp (b4, u5, u6, u7, u8, u9, u10, u11, u12, u13, u14, u15) y185 (z := (pt b4 0)) rfl (.cons .k0 (.cons .k0 (.cons .k0 (.cons .k0 (.cons .k0 (.cons .k0 (.cons .k0 (.cons .k0 (.cons .k0 (.cons .k0 (.cons .k0 (.cons .k0 .nil)))))))))))) <| .finwn () (.r0 rfl) trivial (Ls.of (.cons .k0 .nil)) .nil
      · rw [if_neg (ne_true_of_eq_false c303)] at h
        refine .skip ?_
        cases h
        exact .bxc world_World.bd world_World.fp (b4, u5, u6, u7, u8, u9, u10, u11, u12, u13, u14, u15) y185 (z := (pt b4 0)) rfl (.cons .k0 (.cons .k1 (.cons .k0 (.cons .k0 (.cons .k0 (.cons .k0 (.cons .k0 (.cons .k0 (.cons .k0 (.cons .k0 (.cons .k0 (.cons .k0 .nil)))))))))))) <| .finwn () (.r0 rfl) trivial (Ls.of (.cons .k0 .nil)) .nil
attribute [irreducible] world_World_look_bx
noncomputable def world_World_all_bx (a0 : Option world_World) : Option (Unit) :=
  Option.bind a0 fun (y2 : world_World) => some ()
set_option maxRecDepth 20000 in
set_option maxHeartbeats 8000000 in
theorem S_world_World_all_bx (v00 : Value) (a0 : Option world_World) (r : Unit) (h : world_World_all_bx a0 = some r) :
    SpecF Tryz.prog 102 [v00] [bx world_World.bd world_World.fp v00 a0] [] (fun z : Unit => True) (fun z => Tu []) (fun z M => bx world_World.bd world_World.fp v00 a0 ::  M) (fun z M =>  M) := by
  refine .of func102 rfl ntmps102 rfl fun w0 D0 G0 => ?_
  unfold world_World_all_bx at h
  refine .seq <| .reg rfl <| .opp (P.mov .g0) rfl ?_
  obtain ⟨y2, hy3, h⟩ := bnd_eq h
  refine .bxo .k0 hy3 (fun _ _ _ => rfl) fun ⟨b4, u5, u6, u7, u8, u9, u10, u11, u12, u13, u14, u15⟩ hz1 => ?_
  replace hz1 : v00 = pt b4 0 := hz1
  subst hz1
  refine .opp (P.nilc .t0) rfl <| .opp (P.fa .t0 fa_58_5 rfl) rfl <| .op (V.ld (v := nilSl) .t0 .k0 (.one isAgg54 rfl)) rfl <| .opp (P.lenn .t0 runUnderlying54) rfl <| .opp (P.mov .k) rfl <| .nil <| .then <| .block <| .rounds 1 <| .rd <| .seq <| .reg rfl ?_
  refine .opp (P.bin (v := Bo false) .g0 .g1 (BinV.lss.boolc (by decide))) rfl <| .nil <| .then <| .seq <| .condF .t0 <| .exit <| .thx <| .thx <| .inb ?_
  cases h
  exact .bxc world_World.bd world_World.fp (b4, u5, u6, u7, u8, u9, u10, u11, u12, u13, u14, u15) y2 (z := (pt b4 0)) rfl (.cons .k0 (.cons .k0 (.cons .k0 (.cons .k0 (.cons .k0 (.cons .k0 (.cons .k0 (.cons .k0 (.cons .k0 (.cons .k0 (.cons .k0 (.cons .k0 .nil)))))))))))) <| .conseq .k0 (q := bx world_World.bd world_World.fp (pt b4 0) a0) (fun _ h_ => by rw [hy3]; exact h_) <| .finwn () (.r0 rfl) trivial (Ls.of (.cons .k0 .nil)) .nil
attribute [irreducible] world_World_all_bx
noncomputable def slices_Clone_api_Tx (a0 : List api_Tx) : Option ((List api_Tx)) :=
  grd ((([] : List api_Tx).length + a0.length) * 224 ≤ 140737488355328) <| some ((([] : List api_Tx) ++ a0))
set_option maxRecDepth 20000 in
set_option maxHeartbeats 8000000 in
theorem S_slices_Clone_api_Tx (v00 : Value) (a0 : List api_Tx) (r : (List api_Tx)) (h : slices_Clone_api_Tx a0 = some r) :
    SpecF Tryz.prog 26 [v00] [] [rows 25 v00 (a0.map api_Tx.cs)] (fun z : Value => True) (fun z => z) (fun z M => lst 83 25 z (r.map api_Tx.cs) ::  M) (fun z M =>  M) := by
  refine .of func26 rfl ntmps26 rfl fun w0 D0 G0 => ?_
  unfold slices_Clone_api_Tx at h
  refine .seq <| .reg rfl <| .op0 (OpP.toV (P.asg .k)) rfl <| .nil <| .then <| .seq <| .seq <| .reg rfl <| .opp (P.mov .g0) rfl <| .opg (G.nilr (e := 83) .t0 Mm.m0 (by kernel_rfl) rfl) rfl fun n1 hz2 => .nil <| .then ?_
  refine .cond .t0 (fun c3 => ?_) (fun c3 => ?_)
  · have hx7 : a0 = [] := by simpa using hz2 c3
    replace h : some ([] : List api_Tx) = some r := by rw [hx7] at h; simpa [grd] using h
    refine .seq <| .reg rfl <| .opp (P.asg .k) rfl <| .nil <| .then <| .ret <| .thr ?_
    cases h
    exact .lnil 83 25 <| .finw nilSl (.r1 rfl (.tmp .g0)) trivial (Ls.of (.cons .k0 .nil)) .nil
  · refine .skip <| .then <| .seq <| .reg rfl <| .opg (G.bsl0 runUnderlying31 sizeOf83 rfl) rfl fun u4 _ => .opp (P.mov .t1) rfl ?_
    obtain ⟨hb6, h⟩ := grd_eq h
    refine .opg (G.app (by_ := 224) .t1 .t0 .k0 (.inl Mm.m0) runUnderlying31 runUnderlying31 sizeOf83 typeInfo83 rfl rfl zeroValue83 rfl (one_map one_83 _) (by simpa using hb6) rfl) rfl fun u5 _ => .conseq .k0 (q := lst 83 25 u5 ((([] : List api_Tx) ++ a0).map api_Tx.cs)) (fun _ hh => by simpa [List.map_append] using hh) <| .opp (P.asg .t0) rfl <| .nil <| .then <| .ret ?_
    cases h
    exact .finw u5 (.r1 rfl (.tmp .g0)) trivial (Ls.of (.cons .k0 .nil)) .nil
attribute [irreducible] slices_Clone_api_Tx
noncomputable def chain_Chain_Pool_bx (a0 : Option chain_Chain) : Option ((List api_Tx)) :=
  Option.bind (chain_Chain_is_bx a0) fun r1 => if (!r1) = true then (some ([] : List api_Tx)) else (Option.bind a0 fun (y5 : chain_Chain) => Option.bind (slices_Clone_api_Tx y5.pool) fun r11 => some r11)
set_option maxRecDepth 20000 in
set_option maxHeartbeats 8000000 in
theorem S_chain_Chain_Pool_bx (v00 : Value) (a0 : Option chain_Chain) (r : (List api_Tx)) (h : chain_Chain_Pool_bx a0 = some r) :
    SpecF Tryz.prog 10 [v00] [bx chain_Chain.bd chain_Chain.fp v00 a0] [] (fun z : Value => True) (fun z => z) (fun z M => bx chain_Chain.bd chain_Chain.fp v00 a0 :: lst 83 25 z (r.map api_Tx.cs) ::  M) (fun z M =>  M) := by
  refine .of func10 rfl ntmps10 rfl fun w0 D0 G0 => ?_
  unfold chain_Chain_Pool_bx at h
  refine .seq <| .reg rfl <| .op0 (OpP.toV (P.asg .k)) rfl <| .nil <| .then <| .seq <| .seq <| .reg rfl <| .opp (P.mov .g0) rfl ?_
  obtain ⟨r1, hr2, h⟩ := bnd_eq h
  refine .opg (G.call call25 (.cons .t0 .nil) (S_chain_Chain_is_bx v00 a0 r1 hr2) (.cons .k0 .nil) .nil (fun _ _ => rfl) (fun _ _ => rfl) rfl) rfl fun _ _ => .opp (P.not .t0) rfl <| .nil <| .then <| .cond .t0 (fun c3 => ?_) (fun c3 => ?_)
  · rw [if_pos c3] at h
    refine .seq <| .reg rfl <| .opp (P.asg .k) rfl <| .nil <| .then <| .ret <| .thr ?_
    cases h
    exact .lnil 83 25 <| .finw nilSl (.r1 rfl (.tmp .g0)) trivial (Ls.of (.cons .k1 (.cons .k0 .nil))) .nil
  · rw [if_neg (ne_true_of_eq_false c3)] at h
    refine .skip <| .then <| .seq <| .reg rfl <| .opp (P.mov .t0) rfl ?_
    obtain ⟨y5, hy6, h⟩ := bnd_eq h
    refine .bxo .k0 hy6 (fun _ _ _ => rfl) fun ⟨b7, u8, u9, u10⟩ hz4 => ?_
    replace hz4 : v00 = pt b7 0 := hz4
    subst hz4
    refine .opp (P.nilc .t0) rfl <| .opp (P.fa .t0 fa_93_1 rfl) rfl <| .op (V.ld (v := u9) .t0 .k0 (.one isAgg31 rfl)) rfl ?_
    obtain ⟨r11, hr12, h⟩ := bnd_eq h
    refine .opg (G.calll call26 (.cons .t0 .nil) (S_slices_Clone_api_Tx u9 y5.pool r11 hr12) .nil (.imp (List.mem_append_right _ Mm.m2) (fun _ => lst_rows) .nil) (fun _ _ => rfl) rfl) rfl fun u13 _ => .opp (P.asg .t0) rfl <| .nil <| .then <| .ret ?_
    cases h
    exact .bxc chain_Chain.bd chain_Chain.fp (b7, u8, u9, u10) y5 (z := (pt b7 0)) rfl (.cons .k1 (.cons .k1 (.cons .k1 (.cons .k1 .nil)))) <| .conseq .k0 (q := bx chain_Chain.bd chain_Chain.fp (pt b7 0) a0) (fun _ h_ => by rw [hy6]; exact h_) <| .finw u13 (.r1 rfl (.tmp .g0)) trivial (Ls.of (.cons .k0 (.cons .k0 .nil))) .nil
attribute [irreducible] chain_Chain_Pool_bx
noncomputable def world_World_settle_bx (a0 : Option world_World) (a1 : Int) : Option (Unit) :=
  Option.bind (loopW (fun (s1 : Bool) => thn (if s1 = true then true else false) fun (y10 : Bool) => if y10 = true then (Option.bind a0 fun (y16 : world_World) => if (decide (a1 = 0)) = true then (Option.bind (chain_Chain_Pool_bx y16.sides.a0) fun r31 => if (decide (0 < (r31.length : Int))) = true then none else (some (.nx false))) else (if (decide (a1 = 1)) = true then (Option.bind (chain_Chain_Pool_bx y16.sides.a1) fun r38 => if (decide (0 < (r38.length : Int))) = true then none else (some (.nx false))) else none)) else (some (.br false))) true) fun o3 => Lo.on o3 fun (s1 : Bool) => some ()
set_option maxRecDepth 20000 in
set_option maxHeartbeats 8000000 in
theorem S_world_World_settle_bx (v00 : Value) (a0 : Option world_World) (a1 : Int) (r : Unit) (h : world_World_settle_bx a0 a1 = some r) :
    SpecF Tryz.prog 103 [v00, N a1] [bx world_World.bd world_World.fp v00 a0] [] (fun z : Unit => True) (fun z => Tu []) (fun z M => bx world_World.bd world_World.fp v00 a0 ::  M) (fun z M =>  M) := by
  refine .of func103 rfl ntmps103 rfl fun w0 D0 G0 => ?_
  unfold world_World_settle_bx at h
  refine .seq <| .reg rfl <| .opp (P.asg .k) rfl <| .nil <| .then <| .seq <| .reg rfl <| .opp (P.asg .k) rfl <| .nil <| .then <| .block ?_
  obtain ⟨o3, ho4, h⟩ := bnd_eq h
  refine .loopW (γ := Unit) (fun (s1 : Bool) z2 => [(5, Bo s1), (4, N 0), (0, v00), (1, N a1)]) (fun (s1 : Bool) z2 => [bx world_World.bd world_World.fp v00 a0]) (fun (s1 : Bool) z2 => []) () ho4 (.cons Mm.m0 (.cons Mm.m1 (.cons Mm.m2 (.cons Mm.m3 .nil)))) (.of (.cons .k0 .nil)) .nil (fun n9 s1 z2 hr7 => ?_)
  obtain ⟨ct8, hc5, hn6⟩ := loopK_at hr7
  refine .seq ?_
  obtain ⟨y10, hj12, hc5⟩ := thn_eq hc5
  refine .cutx (γ := Unit) (E1 := fun z11 => [(11, Bo y10), (4, N 0), (0, v00), (1, N a1)]) (L1 := fun z11 => [bx world_World.bd world_World.fp v00 a0]) (R1 := fun z11 => []) ?_ (fun z11 => ?_)
  · clear hc5
    refine .reg rfl <| .opp (P.mov .t0) rfl <| .opp (P.mov .t0) rfl <| .split .k0 (fun c13 => ?_) (fun c13 => ?_)
    · rw [if_pos c13] at hj12
      refine .gyes rfl .g0 <| .opp (P.mov .g1) rfl <| .gyes rfl .g1 <| .opp (P.bin (v := Bo true) .t0 .k (BinV.lss.boolc (by decide))) rfl <| .opp (P.pickT .t1 .t0) rfl <| .nil ?_
      subst hj12
      exact .stj () (.cons Mm.m0 (.cons Mm.m1 (.cons Mm.m2 (.cons Mm.m3 .nil)))) (.of (.cons .k0 .nil)) .nil
    · rw [if_neg (ne_true_of_eq_false c13)] at hj12
      refine .gno rfl .g0 rfl rfl <| .gno rfl .g0 rfl rfl <| .opp (P.pickF .t0 .k) rfl <| .nil ?_
      subst hj12
      exact .stj () (.cons Mm.m0 (.cons Mm.m1 (.cons Mm.m2 (.cons Mm.m3 .nil)))) (.of (.cons .k0 .nil)) .nil
  · clear hj12
    refine .cond .t0 (fun c14 => ?_) (fun c14 => ?_)
    · rw [if_pos c14] at hc5
      refine .skip <| .then <| .block <| .seq <| .reg rfl <| .opp (P.asg .k) rfl <| .nil <| .then <| .seq <| .reg rfl <| .opp (P.mov .g2) rfl <| .opp (P.mov .g4) rfl ?_
      obtain ⟨y16, hy17, hc5⟩ := bnd_eq hc5
      refine .bxo .k0 hy17 (fun _ _ _ => rfl) fun ⟨b18, u19, u20, u21, u22, u23, u24, u25, u26, u27, u28, u29⟩ hz15 => ?_
      replace hz15 : v00 = pt b18 0 := hz15
      subst hz15
      refine .opp (P.nilc .t1) rfl <| .opp (P.fa .t0 fa_58_1 rfl) rfl <| .ixS 0 .k1 (fun c30 => ?_) (fun c30 => ?_)
      · rw [if_pos c30] at hc5
        refine .opp (P.iac (i := 0) .t0 rfl .t0 runUnderlying48 sizeOf32 rfl rfl) rfl <| .op (V.ld (v := u19) .t0 .k0 (.one isAgg32 rfl)) rfl ?_
        obtain ⟨r31, hr32, hc5⟩ := bnd_eq hc5
        refine .opg (G.call call10 (.cons .t0 .nil) (S_chain_Chain_Pool_bx u19 y16.sides.a0 r31 hr32) (.cons .k1 .nil) .nil (fun _ _ => rfl) (fun _ _ => rfl) rfl) rfl fun u33 _ => .op (V.lnl (n := r31.length) .t0 .k1 map_len runUnderlying31) rfl <| .opp (P.mov .k) rfl <| .nil <| .then <| .block <| .rounds 1 <| .rd <| .seq <| .reg rfl <| .opp (P.bin .g0 .g1 .lss) rfl <| .nil ?_
        refine .then <| .seq <| .cond .t0 (fun c34 => ?_) (fun c34 => ?_)
        · rw [if_pos c34] at hc5
          refine .skip <| .then <| .seq <| .block <| .seq <| .reg rfl <| .opp (P.mov .g0) rfl <| .opp (P.asg .t0) rfl <| .nil <| .then <| .seq <| .reg rfl ?_
          refine .opp (P.mov .g4) rfl <| .opp (P.bin (v := Bo true) .t0 .k (BinV.lss.boolc (by decide))) rfl <| .opp (P.mov .t0) rfl <| .gyes rfl .g0 <| .opp (P.mov .g6) rfl <| .gyes rfl .g1 <| .opp (P.mov .g8) rfl <| .gyes rfl .g2 <| .opp (P.mov .t3) rfl <| .gyes rfl .g3 ?_
          cases hc5
        · rw [if_neg (ne_true_of_eq_false c34)] at hc5
          refine .exit <| .thx <| .thx <| .inb <| .inn <| .bxc world_World.bd world_World.fp (b18, u19, u20, u21, u22, u23, u24, u25, u26, u27, u28, u29) y16 (z := (pt b18 0)) rfl (.cons .k2 (.cons .k0 (.cons .k1 (.cons .k1 (.cons .k1 (.cons .k1 (.cons .k1 (.cons .k1 (.cons .k1 (.cons .k1 (.cons .k1 (.cons .k1 .nil)))))))))))) <| .conseq .k0 (q := bx world_World.bd world_World.fp (pt b18 0) a0) (fun _ h_ => by rw [hy17]; exact h_) ?_
          cases hc5
          obtain ⟨m35, hm36, hn6⟩ := hn6
          exact .rdW false () hm36 hn6 (.cons Mm.m2 (.cons Mm.m3 (.cons Mm.m4 (.cons Mm.m5 .nil)))) (.of (.cons .k0 .nil)) .nil
      · rw [if_neg (ne_true_of_eq_false c30)] at hc5
        refine .ixS 1 .k0 (fun c37 => ?_) (fun c37 => ?_)
        · rw [if_pos c37] at hc5
          refine .opp (P.iac (i := 1) .t0 rfl .t0 runUnderlying48 sizeOf32 rfl rfl) rfl <| .op (V.ld (v := u20) .t0 .k0 (.one isAgg32 rfl)) rfl ?_
          obtain ⟨r38, hr39, hc5⟩ := bnd_eq hc5
          refine .opg (G.call call10 (.cons .t0 .nil) (S_chain_Chain_Pool_bx u20 y16.sides.a1 r38 hr39) (.cons .k2 .nil) .nil (fun _ _ => rfl) (fun _ _ => rfl) rfl) rfl fun u40 _ => .op (V.lnl (n := r38.length) .t0 .k1 map_len runUnderlying31) rfl <| .opp (P.mov .k) rfl <| .nil <| .then <| .block <| .rounds 1 <| .rd <| .seq <| .reg rfl <| .opp (P.bin .g0 .g1 .lss) rfl <| .nil ?_
          refine .then <| .seq <| .cond .t0 (fun c41 => ?_) (fun c41 => ?_)
          · rw [if_pos c41] at hc5
            refine .skip <| .then <| .seq <| .block <| .seq <| .reg rfl <| .opp (P.mov .g0) rfl <| .opp (P.asg .t0) rfl <| .nil <| .then <| .seq <| .reg rfl ?_
            refine .opp (P.mov .g4) rfl <| .opp (P.bin (v := Bo true) .t0 .k (BinV.lss.boolc (by decide))) rfl <| .opp (P.mov .t0) rfl <| .gyes rfl .g0 <| .opp (P.mov .g6) rfl <| .gyes rfl .g1 <| .opp (P.mov .g8) rfl <| .gyes rfl .g2 <| .opp (P.mov .t3) rfl <| .gyes rfl .g3 ?_
            cases hc5
          · rw [if_neg (ne_true_of_eq_false c41)] at hc5
            refine .exit <| .thx <| .thx <| .inb <| .inn <| .bxc world_World.bd world_World.fp (b18, u19, u20, u21, u22, u23, u24, u25, u26, u27, u28, u29) y16 (z := (pt b18 0)) rfl (.cons .k2 (.cons .k2 (.cons .k0 (.cons .k1 (.cons .k1 (.cons .k1 (.cons .k1 (.cons .k1 (.cons .k1 (.cons .k1 (.cons .k1 (.cons .k1 .nil)))))))))))) <| .conseq .k0 (q := bx world_World.bd world_World.fp (pt b18 0) a0) (fun _ h_ => by rw [hy17]; exact h_) ?_
            cases hc5
            obtain ⟨m42, hm43, hn6⟩ := hn6
            exact .rdW false () hm43 hn6 (.cons Mm.m2 (.cons Mm.m3 (.cons Mm.m4 (.cons Mm.m5 .nil)))) (.of (.cons .k0 .nil)) .nil
        · rw [if_neg (ne_true_of_eq_false c37)] at hc5
          cases hc5
    · rw [if_neg (ne_true_of_eq_false c14)] at hc5
      refine .exit <| .thx ?_
      cases hc5
      refine .told (γ := Unit) h hn6 (fun (s1 : Bool) _ => [(4, N 0), (0, v00), (1, N a1)]) (fun (s1 : Bool) _ => [bx world_World.bd world_World.fp v00 a0]) (fun (s1 : Bool) _ => []) () (.cons Mm.m0 (.cons Mm.m1 (.cons Mm.m2 .nil))) (.of (.cons .k0 .nil)) .nil (fun s1 _ h' => ?_)
      replace h := h'
      refine .thx <| .inb ?_
      cases h
      exact .finwn () (.r0 rfl) trivial (Ls.of (.cons .k0 .nil)) .nil
attribute [irreducible] world_World_settle_bx
noncomputable def world_World_round_bx (a0 : Option world_World) : Option ((Option world_World)) :=
  Option.bind (world_World_all_bx a0) fun r1 => Option.bind (world_World_look_bx a0 0) fun r3 => Option.bind (world_World_look_bx r3 1) fun r5 => Option.bind (world_World_look_bx r5 2) fun r7 => Option.bind (world_World_look_bx r7 3) fun r9 => Option.bind (world_World_look_bx r9 4) fun r11 => Option.bind (world_World_all_bx r11) fun r13 => Option.bind (world_World_settle_bx r11 0) fun r15 => Option.bind (world_World_settle_bx r11 1) fun r17 => Option.bind (world_World_tick_bx r11) fun r19 => some r19
set_option maxRecDepth 20000 in
set_option maxHeartbeats 8000000 in
theorem S_world_World_round_bx (v00 : Value) (a0 : Option world_World) (r : (Option world_World)) (h : world_World_round_bx a0 = some r) :
    SpecF Tryz.prog 52 [v00] [bx world_World.bd world_World.fp v00 a0] [] (fun z : Unit => True) (fun z => Tu []) (fun z M => bx world_World.bd world_World.fp v00 r ::  M) (fun z M =>  M) := by
  refine .of func52 rfl ntmps52 rfl fun w0 D0 G0 => ?_
  unfold world_World_round_bx at h
  refine .seq <| .reg rfl <| .opp (P.mov .g0) rfl ?_
  obtain ⟨r1, hr2, h⟩ := bnd_eq h
  refine .opg (G.call call102 (.cons .t0 .nil) (S_world_World_all_bx v00 a0 r1 hr2) (.cons .k0 .nil) .nil (fun _ _ => rfl) (fun _ _ => rfl) rfl) rfl fun _ _ => .drop .k0 <| .nil <| .then <| .seq <| .seq <| .reg rfl <| .opp (P.mov .k) rfl <| .nil <| .then <| .block <| .rounds 6 ?_
  refine .rd <| .seq <| .reg rfl <| .opp (P.bin (v := Bo true) .g0 .k (BinV.lss.boolc (by decide))) rfl <| .nil <| .then <| .seq <| .condT .t0 <| .skip <| .then <| .seq <| .block ?_
  refine .seq <| .reg rfl <| .opp (P.mov .g0) rfl <| .opp (P.asg .t0) rfl <| .nil <| .then <| .reg rfl <| .opp (P.mov .g2) rfl <| .opp (P.mov .t1) rfl ?_
  obtain ⟨r3, hr4, h⟩ := bnd_eq h
  refine .opg (G.call call44 (.cons .t1 (.cons .t0 .nil)) (S_world_World_look_bx v00 a0 0 r3 hr4) (.cons .k0 .nil) .nil (fun _ _ => rfl) (fun _ _ => rfl) rfl) rfl fun _ _ => .drop .k0 <| .nil <| .inn <| .then <| .reg rfl <| .opp (P.bin (v := N 1) .g0 .k (.addc (by decide))) rfl <| .drop .k1 <| .opp (P.mov .t0) rfl <| .nil <| .then <| .rd ?_
  refine .seq <| .reg rfl <| .opp (P.bin (v := Bo true) .g0 .k (BinV.lss.boolc (by decide))) rfl <| .nil <| .then <| .seq <| .condT .t0 <| .skip <| .then <| .seq <| .block <| .seq ?_
  refine .reg rfl <| .opp (P.mov .g0) rfl <| .opp (P.asg .t0) rfl <| .nil <| .then <| .reg rfl <| .opp (P.mov .g2) rfl <| .opp (P.mov .t1) rfl ?_
  obtain ⟨r5, hr6, h⟩ := bnd_eq h
  refine .opg (G.call call44 (.cons .t1 (.cons .t0 .nil)) (S_world_World_look_bx v00 r3 1 r5 hr6) (.cons .k0 .nil) .nil (fun _ _ => rfl) (fun _ _ => rfl) rfl) rfl fun _ _ => .drop .k0 <| .nil <| .inn <| .then <| .reg rfl <| .opp (P.bin (v := N 2) .g0 .k (.addc (by decide))) rfl <| .drop .k1 <| .opp (P.mov .t0) rfl <| .nil <| .then <| .rd ?_
  refine .seq <| .reg rfl <| .opp (P.bin (v := Bo true) .g0 .k (BinV.lss.boolc (by decide))) rfl <| .nil <| .then <| .seq <| .condT .t0 <| .skip <| .then <| .seq <| .block <| .seq ?_
  refine .reg rfl <| .opp (P.mov .g0) rfl <| .opp (P.asg .t0) rfl <| .nil <| .then <| .reg rfl <| .opp (P.mov .g2) rfl <| .opp (P.mov .t1) rfl ?_
  obtain ⟨r7, hr8, h⟩ := bnd_eq h
  refine .opg (G.call call44 (.cons .t1 (.cons .t0 .nil)) (S_world_World_look_bx v00 r5 2 r7 hr8) (.cons .k0 .nil) .nil (fun _ _ => rfl) (fun _ _ => rfl) rfl) rfl fun _ _ => .drop .k0 <| .nil <| .inn <| .then <| .reg rfl <| .opp (P.bin (v := N 3) .g0 .k (.addc (by decide))) rfl <| .drop .k1 <| .opp (P.mov .t0) rfl <| .nil <| .then <| .rd ?_
  refine .seq <| .reg rfl <| .opp (P.bin (v := Bo true) .g0 .k (BinV.lss.boolc (by decide))) rfl <| .nil <| .then <| .seq <| .condT .t0 <| .skip <| .then <| .seq <| .block <| .seq ?_
  refine .reg rfl <| .opp (P.mov .g0) rfl <| .opp (P.asg .t0) rfl <| .nil <| .then <| .reg rfl <| .opp (P.mov .g2) rfl <| .opp (P.mov .t1) rfl ?_
  obtain ⟨r9, hr10, h⟩ := bnd_eq h
  refine .opg (G.call call44 (.cons .t1 (.cons .t0 .nil)) (S_world_World_look_bx v00 r7 3 r9 hr10) (.cons .k0 .nil) .nil (fun _ _ => rfl) (fun _ _ => rfl) rfl) rfl fun _ _ => .drop .k0 <| .nil <| .inn <| .then <| .reg rfl <| .opp (P.bin (v := N 4) .g0 .k (.addc (by decide))) rfl <| .drop .k1 <| .opp (P.mov .t0) rfl <| .nil <| .then <| .rd ?_
  refine .seq <| .reg rfl <| .opp (P.bin (v := Bo true) .g0 .k (BinV.lss.boolc (by decide))) rfl <| .nil <| .then <| .seq <| .condT .t0 <| .skip <| .then <| .seq <| .block <| .seq ?_
  refine .reg rfl <| .opp (P.mov .g0) rfl <| .opp (P.asg .t0) rfl <| .nil <| .then <| .reg rfl <| .opp (P.mov .g2) rfl <| .opp (P.mov .t1) rfl ?_
  obtain ⟨r11, hr12, h⟩ := bnd_eq h
  refine .opg (G.call call44 (.cons .t1 (.cons .t0 .nil)) (S_world_World_look_bx v00 r9 4 r11 hr12) (.cons .k0 .nil) .nil (fun _ _ => rfl) (fun _ _ => rfl) rfl) rfl fun _ _ => .drop .k0 <| .nil <| .inn <| .then <| .reg rfl <| .opp (P.bin (v := N 5) .g0 .k (.addc (by decide))) rfl <| .drop .k1 <| .opp (P.mov .t0) rfl <| .nil <| .then <| .rd ?_
  refine .seq <| .reg rfl <| .opp (P.bin (v := Bo false) .g0 .k (BinV.lss.boolc (by decide))) rfl <| .nil <| .then <| .seq <| .condF .t0 <| .exit <| .thx <| .thx <| .inb <| .then ?_
  refine .seq <| .reg rfl <| .opp (P.mov .g1) rfl ?_
  obtain ⟨r13, hr14, h⟩ := bnd_eq h
  refine .opg (G.call call102 (.cons .t0 .nil) (S_world_World_all_bx v00 r11 r13 hr14) (.cons .k0 .nil) .nil (fun _ _ => rfl) (fun _ _ => rfl) rfl) rfl fun _ _ => .drop .k0 <| .nil <| .then <| .seq <| .reg rfl <| .opp (P.mov .g1) rfl ?_
  obtain ⟨r15, hr16, h⟩ := bnd_eq h
  refine .opg (G.call call103 (.cons .t0 (.cons .k .nil)) (S_world_World_settle_bx v00 r11 0 r15 hr16) (.cons .k0 .nil) .nil (fun _ _ => rfl) (fun _ _ => rfl) rfl) rfl fun _ _ => .drop .k0 <| .nil <| .then <| .seq <| .reg rfl <| .opp (P.mov .g1) rfl ?_
  obtain ⟨r17, hr18, h⟩ := bnd_eq h
  refine .opg (G.call call103 (.cons .t0 (.cons .k .nil)) (S_world_World_settle_bx v00 r11 1 r17 hr18) (.cons .k0 .nil) .nil (fun _ _ => rfl) (fun _ _ => rfl) rfl) rfl fun _ _ => .drop .k0 <| .nil <| .then <| .reg rfl <| .opp (P.mov .t1) rfl ?_
  obtain ⟨r19, hr20, h⟩ := bnd_eq h
  refine .opg (G.call call43 (.cons .t0 .nil) (S_world_World_tick_bx v00 r11 r19 hr20) (.cons .k0 .nil) .nil (fun _ _ => rfl) (fun _ _ => rfl) rfl) rfl fun _ _ => .drop .k0 <| .nil ?_
  cases h
  exact .finwn () (.r0 rfl) trivial (Ls.of (.cons .k0 .nil)) .nil
attribute [irreducible] world_World_round_bx
noncomputable def world_World_Step_bx (a0 : Option world_World) (a1 : api_Step) : Option ((Option world_World)) :=
  Option.bind (world_World_is_bx a0) fun r2 => if (!r2) = true then (some a0) else (if (decide (a1.Kind = 1)) = true then (Option.bind (world_World_tick_bx a0) fun r6 => some r6) else (if (decide (a1.Kind = 2)) = true then (Option.bind (world_World_look_bx a0 a1.A) fun r9 => some r9) else (thn (if (decide (a1.Kind = 3)) = true then (decide (a1.Kind = 3)) else (if (decide (a1.Kind = 4)) = true then (decide (a1.Kind = 4)) else (if (decide (a1.Kind = 5)) = true then (decide (a1.Kind = 5)) else (decide (a1.Kind = 7))))) fun (y11 : Bool) => if y11 = true then none else (if (decide (a1.Kind = 6)) = true then none else (if (decide (a1.Kind = 8)) = true then none else (if (decide (a1.Kind = 9)) = true then none else (if (decide (a1.Kind = 10)) = true then none else (if (decide (a1.Kind = 11)) = true then none else (if (decide (a1.Kind = 12)) = true then none else (if (decide (a1.Kind = 13)) = true then (Option.bind (world_World_round_bx a0) fun r25 => some r25) else (some a0)))))))))))
set_option maxRecDepth 20000 in
set_option maxHeartbeats 8000000 in
theorem S_world_World_Step_bx (v00 : Value) (a0 : Option world_World) (a1 : api_Step) (z01a : Value) (r : (Option world_World)) (h : world_World_Step_bx a0 a1 = some r) :
    SpecF Tryz.prog 22 [v00, Ag (api_Step.cs a1 z01a)] [bx world_World.bd world_World.fp v00 a0] [rows 1 z01a (a1.Data.map (fun x => [B8 x]))] (fun z : Unit => True) (fun z => Tu []) (fun z M => bx world_World.bd world_World.fp v00 r ::  M) (fun z M =>  M) := by
  refine .of func22 rfl ntmps22 rfl fun w0 D0 G0 => ?_
  unfold world_World_Step_bx at h
  refine .seq <| .reg rfl <| .opx (X.box (cs := (api_Step.cs a1 z01a)) .t1 rfl) rfl fun b1 => .nil <| .then <| .seq <| .seq <| .reg rfl <| .opp (P.mov .g1) rfl ?_
  obtain ⟨r2, hr3, h⟩ := bnd_eq h
  refine .opg (G.call call23 (.cons .t0 .nil) (S_world_World_is_bx v00 a0 r2 hr3) (.cons .k1 .nil) .nil (fun _ _ => rfl) (fun _ _ => rfl) rfl) rfl fun _ _ => .opp (P.not .t0) rfl <| .nil <| .then <| .cond .t0 (fun c4 => ?_) (fun c4 => ?_)
  · rw [if_pos c4] at h
    refine .ret <| .thr ?_
    cases h
    exact .finw () (.r0 rfl) trivial (Ls.of (.cons .k0 .nil)) .nil
  · rw [if_neg (ne_true_of_eq_false c4)] at h
    refine .skip <| .then <| .seq <| .reg rfl <| .opp (P.fa .g0 fa_72_0 rfl) rfl <| .op (V.ld (v := N a1.Kind) .t0 .k1 (.one isAgg3 rfl)) rfl <| .nil <| .then <| .block <| .seq <| .reg rfl <| .opp (P.bin .g0 .k .eql) rfl ?_
    refine .opp (P.asg .t0) rfl <| .nil <| .then <| .cond .t0 (fun c5 => ?_) (fun c5 => ?_)
    · rw [if_pos c5] at h
      refine .reg rfl <| .opp (P.mov .t2) rfl ?_
      obtain ⟨r6, hr7, h⟩ := bnd_eq h
      refine .opg (G.call call43 (.cons .t0 .nil) (S_world_World_tick_bx v00 a0 r6 hr7) (.cons .k0 .nil) .nil (fun _ _ => rfl) (fun _ _ => rfl) rfl) rfl fun _ _ => .drop .k0 <| .nil <| .inn ?_
      cases h
      exact .finwn () (.r0 rfl) trivial (Ls.of (.cons .k0 .nil)) .nil
    · rw [if_neg (ne_true_of_eq_false c5)] at h
      refine .seq <| .reg rfl <| .opp (P.bin .g0 .k .eql) rfl <| .opp (P.asg .t0) rfl <| .nil <| .then <| .cond .t0 (fun c8 => ?_) (fun c8 => ?_)
      · rw [if_pos c8] at h
        refine .reg rfl <| .opp (P.mov .t2) rfl <| .opp (P.fa .t2 fa_72_1 rfl) rfl <| .op (V.ld (v := N a1.A) .t0 .k1 (.one isAgg3 rfl)) rfl ?_
        obtain ⟨r9, hr10, h⟩ := bnd_eq h
        refine .opg (G.call call44 (.cons .t1 (.cons .t0 .nil)) (S_world_World_look_bx v00 a0 a1.A r9 hr10) (.cons .k0 .nil) .nil (fun _ _ => rfl) (fun _ _ => rfl) rfl) rfl fun _ _ => .drop .k0 <| .nil <| .inn ?_
        cases h
        exact .finwn () (.r0 rfl) trivial (Ls.of (.cons .k0 .nil)) .nil
      · rw [if_neg (ne_true_of_eq_false c8)] at h
        obtain ⟨y11, hj13, h⟩ := thn_eq h
        refine .cutx (γ := Unit) (E1 := fun z12 => [(19, Bo y11), (8, N a1.Kind), (3, pt b1 0), (0, v00)]) (L1 := fun z12 => [blk b1 72 (api_Step.cs a1 z01a), bx world_World.bd world_World.fp v00 a0]) (R1 := fun z12 => [rows 1 z01a (a1.Data.map (fun x => [B8 x]))]) ?_ (fun z12 => ?_)
        · clear h
          refine .seq <| .reg rfl <| .opp (P.bin .g0 .k .eql) rfl <| .opp (P.asg .t0) rfl <| .nil <| .then <| .cond .g0 (fun c14 => ?_) (fun c14 => ?_)
          · rw [if_pos c14] at hj13
            refine .skip ?_
            subst hj13
            exact .stj () (.cons Mm.m0 (.cons Mm.m1 (.cons Mm.m2 (.cons Mm.m3 .nil)))) (.of (.cons .k1 (.cons .k0 .nil))) (.cons Mm.m0 .nil)
          · rw [if_neg (ne_true_of_eq_false c14)] at hj13
            refine .seq <| .reg rfl <| .opp (P.bin .g1 .k .eql) rfl <| .drop .k1 <| .opp (P.asg .t0) rfl <| .nil <| .then <| .cond .g0 (fun c15 => ?_) (fun c15 => ?_)
            · rw [if_pos c15] at hj13
              refine .skip ?_
              subst hj13
              exact .stj () (.cons Mm.m0 (.cons Mm.m1 (.cons Mm.m2 (.cons Mm.m3 .nil)))) (.of (.cons .k1 (.cons .k0 .nil))) (.cons Mm.m0 .nil)
            · rw [if_neg (ne_true_of_eq_false c15)] at hj13
              refine .seq <| .reg rfl <| .opp (P.bin .g1 .k .eql) rfl <| .drop .k1 <| .opp (P.asg .t0) rfl <| .nil <| .then <| .cond .g0 (fun c16 => ?_) (fun c16 => ?_)
              · rw [if_pos c16] at hj13
                refine .skip ?_
                subst hj13
                exact .stj () (.cons Mm.m0 (.cons Mm.m1 (.cons Mm.m2 (.cons Mm.m3 .nil)))) (.of (.cons .k1 (.cons .k0 .nil))) (.cons Mm.m0 .nil)
              · rw [if_neg (ne_true_of_eq_false c16)] at hj13
                refine .reg rfl <| .opp (P.bin .g1 .k .eql) rfl <| .drop .k1 <| .opp (P.asg .t0) rfl <| .nil ?_
                subst hj13
                exact .stj () (.cons Mm.m0 (.cons Mm.m1 (.cons Mm.m2 (.cons Mm.m3 .nil)))) (.of (.cons .k1 (.cons .k0 .nil))) (.cons Mm.m0 .nil)
        · clear hj13
          refine .cond .t0 (fun c17 => ?_) (fun c17 => ?_)
          · rw [if_pos c17] at h
            refine .reg rfl <| .opp (P.mov .t2) rfl <| .op (V.ld (v := Ag (api_Step.cs a1 z01a)) .t2 .k0 (.agg isAgg72 sizeOf72 rfl rfl)) rfl ?_
            cases h
          · rw [if_neg (ne_true_of_eq_false c17)] at h
            refine .seq <| .reg rfl <| .opp (P.bin .g0 .k .eql) rfl <| .opp (P.asg .t0) rfl <| .nil <| .then <| .cond .t0 (fun c18 => ?_) (fun c18 => ?_)
            · rw [if_pos c18] at h
              refine .reg rfl <| .opp (P.mov .t2) rfl <| .opp (P.fa .g2 fa_72_2 rfl) rfl <| .op (V.ld (v := N a1.B) .t0 .k0 (.one isAgg3 rfl)) rfl <| .opp (P.fa .t3 fa_72_4 rfl) rfl <| .op (V.ld (v := z01a) .t0 .k0 (.one isAgg70 rfl)) rfl ?_
              cases h
            · rw [if_neg (ne_true_of_eq_false c18)] at h
              refine .seq <| .reg rfl <| .opp (P.bin .g0 .k .eql) rfl <| .opp (P.asg .t0) rfl <| .nil <| .then <| .cond .t0 (fun c19 => ?_) (fun c19 => ?_)
              · rw [if_pos c19] at h
                refine .reg rfl <| .opp (P.mov .t2) rfl <| .opp (P.fa .g2 fa_72_2 rfl) rfl <| .op (V.ld (v := N a1.B) .t0 .k0 (.one isAgg3 rfl)) rfl <| .opp (P.fa .t3 fa_72_1 rfl) rfl <| .op (V.ld (v := N a1.A) .t0 .k0 (.one isAgg3 rfl)) rfl ?_
                cases h
              · rw [if_neg (ne_true_of_eq_false c19)] at h
                refine .seq <| .reg rfl <| .opp (P.bin .g0 .k .eql) rfl <| .opp (P.asg .t0) rfl <| .nil <| .then <| .cond .t0 (fun c20 => ?_) (fun c20 => ?_)
                · rw [if_pos c20] at h
                  refine .reg rfl <| .opp (P.mov .t2) rfl <| .opp (P.fa .g2 fa_72_1 rfl) rfl <| .op (V.ld (v := N a1.A) .t0 .k0 (.one isAgg3 rfl)) rfl <| .opp (P.fa .g3 fa_72_2 rfl) rfl <| .op (V.ld (v := N a1.B) .t0 .k0 (.one isAgg3 rfl)) rfl <| .opp (P.fa .t4 fa_72_3 rfl) rfl <| .op (V.ld (v := N a1.C) .t0 .k0 (.one isAgg3 rfl)) rfl ?_
                  cases h
                · rw [if_neg (ne_true_of_eq_false c20)] at h
                  refine .seq <| .reg rfl <| .opp (P.bin .g0 .k .eql) rfl <| .opp (P.asg .t0) rfl <| .nil <| .then <| .cond .t0 (fun c21 => ?_) (fun c21 => ?_)
                  · rw [if_pos c21] at h
                    refine .reg rfl <| .opp (P.mov .t2) rfl <| .opp (P.fa .g2 fa_72_1 rfl) rfl <| .op (V.ld (v := N a1.A) .t0 .k0 (.one isAgg3 rfl)) rfl <| .opp (P.fa .t3 fa_72_2 rfl) rfl <| .op (V.ld (v := N a1.B) .t0 .k0 (.one isAgg3 rfl)) rfl ?_
                    cases h
                  · rw [if_neg (ne_true_of_eq_false c21)] at h
                    refine .seq <| .reg rfl <| .opp (P.bin .g0 .k .eql) rfl <| .opp (P.asg .t0) rfl <| .nil <| .then <| .cond .t0 (fun c22 => ?_) (fun c22 => ?_)
                    · rw [if_pos c22] at h
                      refine .reg rfl <| .opp (P.mov .t2) rfl <| .opp (P.fa .t2 fa_72_1 rfl) rfl <| .op (V.ld (v := N a1.A) .t0 .k0 (.one isAgg3 rfl)) rfl ?_
                      cases h
                    · rw [if_neg (ne_true_of_eq_false c22)] at h
                      refine .seq <| .reg rfl <| .opp (P.bin .g0 .k .eql) rfl <| .opp (P.asg .t0) rfl <| .nil <| .then <| .cond .t0 (fun c23 => ?_) (fun c23 => ?_)
                      · rw [if_pos c23] at h
                        refine .reg rfl <| .opp (P.mov .t2) rfl <| .opp (P.fa .g2 fa_72_1 rfl) rfl <| .op (V.ld (v := N a1.A) .t0 .k0 (.one isAgg3 rfl)) rfl <| .opp (P.fa .t3 fa_72_2 rfl) rfl <| .op (V.ld (v := N a1.B) .t0 .k0 (.one isAgg3 rfl)) rfl ?_
                        cases h
                      · rw [if_neg (ne_true_of_eq_false c23)] at h
                        refine .seq <| .reg rfl <| .opp (P.bin .t0 .k .eql) rfl <| .opp (P.asg .t0) rfl <| .nil <| .then <| .cond .t0 (fun c24 => ?_) (fun c24 => ?_)
                        · rw [if_pos c24] at h
                          refine .reg rfl <| .opp (P.mov .t1) rfl ?_
                          obtain ⟨r25, hr26, h⟩ := bnd_eq h
                          refine .opg (G.call call52 (.cons .t0 .nil) (S_world_World_round_bx v00 a0 r25 hr26) (.cons .k1 .nil) .nil (fun _ _ => rfl) (fun _ _ => rfl) rfl) rfl fun _ _ => .drop .k0 <| .nil <| .inn ?_
                          cases h
                          exact .finwn () (.r0 rfl) trivial (Ls.of (.cons .k0 .nil)) .nil
                        · rw [if_neg (ne_true_of_eq_false c24)] at h
                          refine .skip <| .inn ?_
                          cases h
                          exact .finwn () (.r0 rfl) trivial (Ls.of (.cons .k1 .nil)) .nil
attribute [irreducible] world_World_Step_bx
end Go.Sl
