/- Walked code of the program, its pure functions and their contracts. -/
import Derived.Test.YtjlalcoommhfoaaGreatSlDvd
set_option linter.unusedVariables false
set_option linter.unusedSimpArgs false
namespace Go.Sl
open Go.Proofs Go.Proofs.Tryz
structure api_Mail where
  To : Int
  Data : List UInt8
  deriving DecidableEq
def api_Mail.cs (x : api_Mail) (z0 : Value) : List Value := [N x.To, z0]
def api_Mail.g (x : api_Mail) (z : Value) : Asn := rows 1 z (x.Data.map (fun x => [B8 x]))
def api_Mail.z : api_Mail := ⟨0, []⟩
theorem fa_58_2 : FaV Tryz.prog 58 2 6 := .mk runUnderlying58 rfl sizeOf50 rfl rfl
theorem fa_58_4 : FaV Tryz.prog 58 4 10 := .mk runUnderlying58 rfl sizeOf53 rfl rfl
theorem fa_58_5 : FaV Tryz.prog 58 5 11 := .mk runUnderlying58 rfl sizeOf54 rfl rfl
theorem fa_58_6 : FaV Tryz.prog 58 6 12 := .mk runUnderlying58 rfl sizeOf3 rfl rfl
theorem fa_58_9 : FaV Tryz.prog 58 9 21 := .mk runUnderlying58 rfl sizeOf44 rfl rfl
theorem pl_122 : ∀ w, ((#[{ name := "user", type := 3, offset := 0, embedded := false, tag := "", pkgPath := "narrows/client", byteOffset := 0 }, { name := "d", type := 3, offset := 1, embedded := false, tag := "", pkgPath := "narrows/client", byteOffset := 8 }, { name := "root", type := 9, offset := 2, embedded := false, tag := "", pkgPath := "narrows/client", byteOffset := 16 }, { name := "roots", type := 60, offset := 3, embedded := false, tag := "", pkgPath := "narrows/client", byteOffset := 32 }, { name := "room", type := 113, offset := 4, embedded := false, tag := "", pkgPath := "narrows/client", byteOffset := 56 }, { name := "disk", type := 104, offset := 5, embedded := false, tag := "", pkgPath := "narrows/client", byteOffset := 64 }, { name := "deals", type := 115, offset := 6, embedded := false, tag := "", pkgPath := "narrows/client", byteOffset := 72 }, { name := "down", type := 4, offset := 7, embedded := false, tag := "", pkgPath := "narrows/client", byteOffset := 96 }, { name := "made", type := 4, offset := 8, embedded := false, tag := "", pkgPath := "narrows/client", byteOffset := 97 }, { name := "out", type := 120, offset := 9, embedded := false, tag := "", pkgPath := "narrows/client", byteOffset := 104 }] : Array Field).mapM fun f => do pure (f.offset, ← sizeOf f.type) : Sem (Array (Nat × Nat))).run Tryz.prog w = .ok #[(0, 1), (1, 1), (2, 1), (3, 1), (4, 1), (5, 1), (6, 1), (7, 1), (8, 1), (9, 3)] w := fun w => by simp [sizeOf3, sizeOf4, sizeOf9, sizeOf60, sizeOf104, sizeOf113, sizeOf115, sizeOf120]
theorem pl_124 : ∀ w, ((#[{ name := "jobs", type := 117, offset := 0, embedded := false, tag := "", pkgPath := "narrows/relay", byteOffset := 0 }, { name := "made", type := 4, offset := 1, embedded := false, tag := "", pkgPath := "narrows/relay", byteOffset := 24 }] : Array Field).mapM fun f => do pure (f.offset, ← sizeOf f.type) : Sem (Array (Nat × Nat))).run Tryz.prog w = .ok #[(0, 1), (1, 1)] w := fun w => by simp [sizeOf4, sizeOf117]
theorem pl_165 : ∀ w, ((#[{ name := "roots", type := 60, offset := 0, embedded := false, tag := "", pkgPath := "narrows/auction", byteOffset := 0 }, { name := "open", type := 163, offset := 1, embedded := false, tag := "", pkgPath := "narrows/auction", byteOffset := 24 }, { name := "made", type := 4, offset := 2, embedded := false, tag := "", pkgPath := "narrows/auction", byteOffset := 48 }] : Array Field).mapM fun f => do pure (f.offset, ← sizeOf f.type) : Sem (Array (Nat × Nat))).run Tryz.prog w = .ok #[(0, 1), (1, 1), (2, 1)] w := fun w => by simp [sizeOf4, sizeOf60, sizeOf163]
noncomputable def world_World_fill (a0 : world_World) (a1 : Int) : Option (world_World) :=
  Option.bind (chain_Chain_Submit_bx a0.sides.a1 (⟨a1, 0, 2, 0, (wide_Of 400), ⟨0, ⟨#[]⟩, a1, 0, 0, 0, ⟨#[]⟩⟩, ⟨⟨0, 0, 0, 0⟩, 0⟩, ⟨0, 0, 0, 0⟩, ⟨#[]⟩⟩ : api_Tx)) fun r1 => Option.bind (chain_Chain_Include_bx r1.2 0) fun r3 => Option.bind (chain_Chain_Submit_bx r3.2 (⟨a1, 1, 2, 1, (wide_Of 400), ⟨0, ⟨#[]⟩, a1, 0, 0, 0, ⟨#[]⟩⟩, ⟨⟨0, 0, 0, 0⟩, 0⟩, ⟨0, 0, 0, 0⟩, ⟨#[]⟩⟩ : api_Tx)) fun r5 => Option.bind (chain_Chain_Include_bx r5.2 0) fun r7 => some (⟨a0.setup, ⟨a0.sides.a0, r7.2⟩, a0.clients, a0.routers, a0.relay, a0.mail, a0.now, a0.seen, a0.late, a0.since, a0.told, a0.keys, a0.digests, a0.asked, a0.forged, a0.clash⟩ : world_World)
set_option maxRecDepth 20000 in
set_option maxHeartbeats 8000000 in
theorem S_world_World_fill (b00 : Nat) (a0 : world_World) (z00a z00b z00c z00d z00e z00f z00g z00h z00i z00j z00k : Value) (a1 : Int) (r : world_World) (h : world_World_fill a0 a1 = some r) :
    SpecF Tryz.prog 19 [pt b00 0, N a1] [blk b00 58 (world_World.cs a0 z00a z00b z00c z00d z00e z00f z00g z00h z00i z00j z00k), bx chain_Chain.bd chain_Chain.fp z00a a0.sides.a0, bx chain_Chain.bd chain_Chain.fp z00b a0.sides.a1, bx client_Client.bd client_Client.fp z00c a0.clients.a0, bx client_Client.bd client_Client.fp z00d a0.clients.a1, bx router_Router.bd router_Router.fp z00e a0.routers.a0, bx router_Router.bd router_Router.fp z00f a0.routers.a1, bx relay_Relay.bd relay_Relay.fp z00g a0.relay, mb (fun (x : world_place) => Ag x.cs) (fun (x : Int) => N x) z00h a0.since, mb (fun (x : world_word) => Ag x.cs) (fun (x : Bool) => Bo x) z00i a0.told, mb (fun (x : ByteArray) => Value.string x) (fun (x : api_Inv) => Ag x.cs) z00j a0.keys, mb (fun (x : ByteArray) => Value.string x) (fun (x : world_data) => Ag x.cs) z00k a0.digests] [] (fun z : Unit => True) (fun z => Tu []) (fun z M => blk b00 58 (world_World.cs r z00a z00b z00c z00d z00e z00f z00g z00h z00i z00j z00k) :: bx chain_Chain.bd chain_Chain.fp z00a r.sides.a0 :: bx chain_Chain.bd chain_Chain.fp z00b r.sides.a1 :: bx client_Client.bd client_Client.fp z00c r.clients.a0 :: bx client_Client.bd client_Client.fp z00d r.clients.a1 :: bx router_Router.bd router_Router.fp z00e r.routers.a0 :: bx router_Router.bd router_Router.fp z00f r.routers.a1 :: bx relay_Relay.bd relay_Relay.fp z00g r.relay :: mb (fun (x : world_place) => Ag x.cs) (fun (x : Int) => N x) z00h r.since :: mb (fun (x : world_word) => Ag x.cs) (fun (x : Bool) => Bo x) z00i r.told :: mb (fun (x : ByteArray) => Value.string x) (fun (x : api_Inv) => Ag x.cs) z00j r.keys :: mb (fun (x : ByteArray) => Value.string x) (fun (x : world_data) => Ag x.cs) z00k r.digests ::  M) (fun z M =>  M) := by
  refine .of func19 rfl ntmps19 rfl fun w0 D0 G0 => ?_
  unfold world_World_fill at h
  refine .seq <| .reg rfl <| .opp (P.mov .k) rfl <| .nil <| .then <| .block <| .rounds 3 <| .rd <| .seq <| .reg rfl <| .opp (P.bin (v := Bo true) .g0 .k (BinV.lss.boolc (by decide))) rfl <| .nil ?_
  refine .then <| .seq <| .condT .t0 <| .skip <| .then <| .seq <| .block <| .seq <| .reg rfl <| .opp (P.mov .g0) rfl <| .opp (P.asg .t0) rfl <| .nil ?_
  refine .then <| .seq <| .drawl [blk b00 58 (world_World.cs a0 z00a z00b z00c z00d z00e z00f z00g z00h z00i z00j z00k), bx chain_Chain.bd chain_Chain.fp z00a a0.sides.a0, bx client_Client.bd client_Client.fp z00c a0.clients.a0, bx client_Client.bd client_Client.fp z00d a0.clients.a1, bx router_Router.bd router_Router.fp z00e a0.routers.a0, bx router_Router.bd router_Router.fp z00f a0.routers.a1, bx relay_Relay.bd relay_Relay.fp z00g a0.relay, mb (fun (x : world_place) => Ag x.cs) (fun (x : Int) => N x) z00h a0.since, mb (fun (x : world_word) => Ag x.cs) (fun (x : Bool) => Bo x) z00i a0.told, mb (fun (x : ByteArray) => Value.string x) (fun (x : api_Inv) => Ag x.cs) z00j a0.keys, mb (fun (x : ByteArray) => Value.string x) (fun (x : world_data) => Ag x.cs) z00k a0.digests] [] (Ls.of (.cons .k0 (.cons .k0 (.cons .k1 (.cons .k1 (.cons .k1 (.cons .k1 (.cons .k1 (.cons .k1 (.cons .k1 (.cons .k1 (.cons .k1 .nil)))))))))))) Rs.nil 13 (.on 0 .pu (.on 1 .pu (.on 2 .pu (.on 3 .pu (.on 5 .pu (.on 6 .pu (.on 7 .pu (.on 9 .pu (.on 10 .pu (.on 4 .ld (.on 8 .go (.on 11 .pu (.on 12 .go .nl))))))))))))) follows_mixed (.thn (.inb (.thn (.thn (.inb .body))))) (by kernel_rfl) <| .dpu rfl (.n rfl) (P.mov .g2) rfl rfl <| .dpu rfl (.n rfl) (P.nilc .t0) rfl rfl <| .dpu rfl (.n rfl) (P.fa .t0 fa_58_1 rfl) rfl rfl <| .dpu rfl (.n rfl) (P.iac (i := 1) .k rfl .t0 runUnderlying48 sizeOf32 rfl rfl) rfl rfl <| .dpu rfl (.n rfl) (P.mov .g4) rfl rfl <| .dpu rfl (.n rfl) (P.mov .g2) rfl rfl <| .dpu rfl (.n rfl) (P.mov .t3) rfl rfl <| .dpu rfl (.n rfl) (P.mov .g6) rfl rfl <| .dpu rfl (.n rfl) (P.bld (v := Ag (api_Inv.cs ⟨0, ⟨#[]⟩, a1, 0, 0, 0, ⟨#[]⟩⟩)) (.cons .t0 .nil) (bld_run zeroValue79 runUnderlying79 pl_79 (by kernel_rfl))) rfl rfl ?_
  refine .dld rfl (.n rfl) (V.ld (v := z00b) .t4 .k0 (.one isAgg32 rfl)) (fun _ h => (h.imp (Ls.of (.cons .k0 (.cons .k0 (.cons .k1 (.cons .k1 (.cons .k1 (.cons .k1 (.cons .k1 (.cons .k1 (.cons .k1 (.cons .k1 (.cons .k1 .nil))))))))))))).ro Rs.nil) rfl rfl <| .dgo rfl (.n rfl) (G.call call38 (.cons .k .nil) (S_wide_Of 400 _ rfl) .nil .nil (fun _ _ => rfl) (fun _ _ => rfl) rfl) (.inr fun _ _ _ h => (h.imp (Ls.of (.cons .k0 (.cons .k0 (.cons .k1 (.cons .k1 (.cons .k1 (.cons .k1 (.cons .k1 (.cons .k1 (.cons .k1 (.cons .k1 (.cons .k1 .nil))))))))))))).ro Rs.nil) fun _ _ => .dpu rfl (.n rfl) (P.bld (v := Ag (api_Tx.cs ⟨a1, 0, 2, 0, (wide_Of 400), ⟨0, ⟨#[]⟩, a1, 0, 0, 0, ⟨#[]⟩⟩, ⟨⟨0, 0, 0, 0⟩, 0⟩, ⟨0, 0, 0, 0⟩, ⟨#[]⟩⟩)) (.cons .t5 (.cons .t4 (.cons .k (.cons .t3 (.cons .t0 (.cons .t1 .nil)))))) (bld_run zeroValue83 runUnderlying83 pl_83 (by kernel_rfl))) rfl rfl ?_
  obtain ⟨r1, hr2, h⟩ := bnd_eq h
  refine .dgo rfl (.n rfl) (G.call call37 (.cons .t1 (.cons .t0 .nil)) (S_chain_Chain_Submit_bx z00b a0.sides.a1 (⟨a1, 0, 2, 0, (wide_Of 400), ⟨0, ⟨#[]⟩, a1, 0, 0, 0, ⟨#[]⟩⟩, ⟨⟨0, 0, 0, 0⟩, 0⟩, ⟨0, 0, 0, 0⟩, ⟨#[]⟩⟩ : api_Tx) r1 hr2) (.cons .k2 .nil) .nil (fun _ _ => rfl) (fun _ _ => rfl) rfl) (.inr fun _ _ _ h => (h.imp (Ls.of (.cons .k1 (.cons .k1 (.cons .k1 (.cons .k1 (.cons .k1 (.cons .k1 (.cons .k1 (.cons .k1 (.cons .k1 (.cons .k1 (.cons .k1 .nil))))))))))))).ro Rs.nil) fun _ _ => .drop .k0 <| .dnil <| .then <| .reg rfl <| .opp (P.mov .g1) rfl <| .opp (P.nilc .t0) rfl <| .opp (P.fa .t0 fa_58_1 rfl) rfl <| .opp (P.iac (i := 1) .k rfl .t0 runUnderlying48 sizeOf32 rfl rfl) rfl <| .op (V.ld (v := z00b) .t0 .k1 (.one isAgg32 rfl)) rfl ?_
  obtain ⟨r3, hr4, h⟩ := bnd_eq h
  refine .opg (G.call call39 (.cons .t0 (.cons .k .nil)) (S_chain_Chain_Include_bx z00b r1.2 0 r3 hr4) (.cons .k0 .nil) .nil (fun _ _ => rfl) (fun _ _ => rfl) rfl) rfl fun _ _ => .drop .k0 <| .nil <| .inn <| .then <| .reg rfl <| .opp (P.bin (v := N 1) .g0 .k (.addc (by decide))) rfl <| .drop .k1 <| .opp (P.mov .t0) rfl <| .nil <| .then <| .rd ?_
  refine .seq <| .reg rfl <| .opp (P.bin (v := Bo true) .g0 .k (BinV.lss.boolc (by decide))) rfl <| .nil <| .then <| .seq <| .condT .t0 <| .skip <| .then <| .seq <| .block <| .seq ?_
  refine .reg rfl <| .opp (P.mov .g0) rfl <| .opp (P.asg .t0) rfl <| .nil <| .then <| .seq <| .drawl [blk b00 58 (world_World.cs a0 z00a z00b z00c z00d z00e z00f z00g z00h z00i z00j z00k), bx chain_Chain.bd chain_Chain.fp z00a a0.sides.a0, bx client_Client.bd client_Client.fp z00c a0.clients.a0, bx client_Client.bd client_Client.fp z00d a0.clients.a1, bx router_Router.bd router_Router.fp z00e a0.routers.a0, bx router_Router.bd router_Router.fp z00f a0.routers.a1, bx relay_Relay.bd relay_Relay.fp z00g a0.relay, mb (fun (x : world_place) => Ag x.cs) (fun (x : Int) => N x) z00h a0.since, mb (fun (x : world_word) => Ag x.cs) (fun (x : Bool) => Bo x) z00i a0.told, mb (fun (x : ByteArray) => Value.string x) (fun (x : api_Inv) => Ag x.cs) z00j a0.keys, mb (fun (x : ByteArray) => Value.string x) (fun (x : world_data) => Ag x.cs) z00k a0.digests] [] (Ls.of (.cons .k1 (.cons .k1 (.cons .k1 (.cons .k1 (.cons .k1 (.cons .k1 (.cons .k1 (.cons .k1 (.cons .k1 (.cons .k1 (.cons .k1 .nil)))))))))))) Rs.nil 13 (.on 0 .pu (.on 1 .pu (.on 2 .pu (.on 3 .pu (.on 5 .pu (.on 6 .pu (.on 7 .pu (.on 9 .pu (.on 10 .pu (.on 4 .ld (.on 8 .go (.on 11 .pu (.on 12 .go .nl))))))))))))) follows_mixed (.thn (.inb (.thn (.thn (.inb .body))))) (by kernel_rfl) <| .dpu rfl (.n rfl) (P.mov .g2) rfl rfl <| .dpu rfl (.n rfl) (P.nilc .t0) rfl rfl <| .dpu rfl (.n rfl) (P.fa .t0 fa_58_1 rfl) rfl rfl <| .dpu rfl (.n rfl) (P.iac (i := 1) .k rfl .t0 runUnderlying48 sizeOf32 rfl rfl) rfl rfl <| .dpu rfl (.n rfl) (P.mov .g4) rfl rfl ?_
  refine .dpu rfl (.n rfl) (P.mov .g2) rfl rfl <| .dpu rfl (.n rfl) (P.mov .t3) rfl rfl <| .dpu rfl (.n rfl) (P.mov .g6) rfl rfl <| .dpu rfl (.n rfl) (P.bld (v := Ag (api_Inv.cs ⟨0, ⟨#[]⟩, a1, 0, 0, 0, ⟨#[]⟩⟩)) (.cons .t0 .nil) (bld_run zeroValue79 runUnderlying79 pl_79 (by kernel_rfl))) rfl rfl <| .dld rfl (.n rfl) (V.ld (v := z00b) .t4 .k0 (.one isAgg32 rfl)) (fun _ h => (h.imp (Ls.of (.cons .k1 (.cons .k1 (.cons .k1 (.cons .k1 (.cons .k1 (.cons .k1 (.cons .k1 (.cons .k1 (.cons .k1 (.cons .k1 (.cons .k1 .nil))))))))))))).ro Rs.nil) rfl rfl <| .dgo rfl (.n rfl) (G.call call38 (.cons .k .nil) (S_wide_Of 400 _ rfl) .nil .nil (fun _ _ => rfl) (fun _ _ => rfl) rfl) (.inr fun _ _ _ h => (h.imp (Ls.of (.cons .k1 (.cons .k1 (.cons .k1 (.cons .k1 (.cons .k1 (.cons .k1 (.cons .k1 (.cons .k1 (.cons .k1 (.cons .k1 (.cons .k1 .nil))))))))))))).ro Rs.nil) fun _ _ => .dpu rfl (.n rfl) (P.bld (v := Ag (api_Tx.cs ⟨a1, 1, 2, 1, (wide_Of 400), ⟨0, ⟨#[]⟩, a1, 0, 0, 0, ⟨#[]⟩⟩, ⟨⟨0, 0, 0, 0⟩, 0⟩, ⟨0, 0, 0, 0⟩, ⟨#[]⟩⟩)) (.cons .t5 (.cons .t4 (.cons .k (.cons .t3 (.cons .t0 (.cons .t1 .nil)))))) (bld_run zeroValue83 runUnderlying83 pl_83 (by kernel_rfl))) rfl rfl ?_
  obtain ⟨r5, hr6, h⟩ := bnd_eq h
  refine .dgo rfl (.n rfl) (G.call call37 (.cons .t1 (.cons .t0 .nil)) (S_chain_Chain_Submit_bx z00b r3.2 (⟨a1, 1, 2, 1, (wide_Of 400), ⟨0, ⟨#[]⟩, a1, 0, 0, 0, ⟨#[]⟩⟩, ⟨⟨0, 0, 0, 0⟩, 0⟩, ⟨0, 0, 0, 0⟩, ⟨#[]⟩⟩ : api_Tx) r5 hr6) (.cons .k0 .nil) .nil (fun _ _ => rfl) (fun _ _ => rfl) rfl) (.inr fun _ _ _ h => (h.imp (Ls.of (.cons .k1 (.cons .k1 (.cons .k1 (.cons .k1 (.cons .k1 (.cons .k1 (.cons .k1 (.cons .k1 (.cons .k1 (.cons .k1 (.cons .k1 .nil))))))))))))).ro Rs.nil) fun _ _ => .drop .k0 <| .dnil <| .then <| .reg rfl <| .opp (P.mov .g1) rfl <| .opp (P.nilc .t0) rfl <| .opp (P.fa .t0 fa_58_1 rfl) rfl <| .opp (P.iac (i := 1) .k rfl .t0 runUnderlying48 sizeOf32 rfl rfl) rfl <| .op (V.ld (v := z00b) .t0 .k1 (.one isAgg32 rfl)) rfl ?_
  obtain ⟨r7, hr8, h⟩ := bnd_eq h
  refine .opg (G.call call39 (.cons .t0 (.cons .k .nil)) (S_chain_Chain_Include_bx z00b r5.2 0 r7 hr8) (.cons .k0 .nil) .nil (fun _ _ => rfl) (fun _ _ => rfl) rfl) rfl fun _ _ => .drop .k0 <| .nil <| .inn <| .then <| .reg rfl <| .opp (P.bin (v := N 2) .g0 .k (.addc (by decide))) rfl <| .drop .k1 <| .opp (P.mov .t0) rfl <| .nil <| .then <| .rd ?_
  refine .seq <| .reg rfl <| .opp (P.bin (v := Bo false) .g0 .k (BinV.lss.boolc (by decide))) rfl <| .nil <| .then <| .seq <| .condF .t0 <| .exit <| .thx <| .thx <| .inb ?_
  cases h
  exact .finwn () (.r0 rfl) trivial (Ls.of (.cons .k1 (.cons .k1 (.cons .k0 (.cons .k0 (.cons .k0 (.cons .k0 (.cons .k0 (.cons .k0 (.cons .k0 (.cons .k0 (.cons .k0 (.cons .k0 .nil))))))))))))) .nil
attribute [irreducible] world_World_fill
noncomputable def client_Seed (a0 : Int) : Option (ByteArray) :=
  grd ((⟨#[117, 115, 101, 114]⟩ : ByteArray).size + ((⟨⟨([B8i a0] : List UInt8)⟩⟩ : ByteArray) : ByteArray).size ≤ 9223372036854775807) <| some ((⟨#[117, 115, 101, 114]⟩ : ByteArray) ++ ((⟨⟨([B8i a0] : List UInt8)⟩⟩ : ByteArray) : ByteArray))
set_option maxRecDepth 20000 in
set_option maxHeartbeats 8000000 in
theorem S_client_Seed (a0 : Int) (r : ByteArray) (h : client_Seed a0 = some r) :
    SpecF Tryz.prog 40 [N a0] [] [] (fun z : Unit => True) (fun z => .string r) (fun z M =>  M) (fun z M =>  M) := by
  refine .of func40 rfl ntmps40 rfl fun w0 D0 G0 => ?_
  unfold client_Seed at h
  refine .seq <| .reg rfl <| .op0 (OpP.toV (P.asg .k)) rfl <| .nil <| .then <| .seq <| .reg rfl <| .opp (P.mov .t0) rfl <| .opp (P.cnvB8 (m := a0) .t0 runUnderlying3 runUnderlying5) rfl <| .opg (G.bsl (cs := [B8 (B8i a0)]) .t0 runUnderlying70 sizeOf5 zeroValue5 rfl rfl rfl rfl rfl) rfl fun u1 _ => .op (V.b2sl (l := ([B8i a0] : List UInt8)) (e := 5) .t0 .k0 (by kernel_rfl) (by kernel_rfl) (by kernel_rfl)) rfl ?_
  obtain ⟨hb2, h⟩ := grd_eq h
  refine .opp (P.bin .k .t0 (.str_add hb2)) rfl <| .opp (P.asg .t0) rfl <| .nil <| .then <| .ret ?_
  cases h
  exact .finw () (.r1 rfl (.tmp .g0)) trivial (Ls.of .nil) .nil
attribute [irreducible] client_Seed
noncomputable def slices_Clone_string (a0 : List ByteArray) : Option ((List ByteArray)) :=
  grd ((([] : List ByteArray).length + a0.length) * 16 ≤ 140737488355328) <| some ((([] : List ByteArray) ++ a0))
set_option maxRecDepth 20000 in
set_option maxHeartbeats 8000000 in
theorem S_slices_Clone_string (v00 : Value) (a0 : List ByteArray) (r : (List ByteArray)) (h : slices_Clone_string a0 = some r) :
    SpecF Tryz.prog 41 [v00] [] [rows 1 v00 (a0.map (fun x => [.string x]))] (fun z : Value => True) (fun z => z) (fun z M => lst 9 1 z (r.map (fun x => [.string x])) ::  M) (fun z M =>  M) := by
  refine .of func41 rfl ntmps41 rfl fun w0 D0 G0 => ?_
  unfold slices_Clone_string at h
  refine .seq <| .reg rfl <| .op0 (OpP.toV (P.asg .k)) rfl <| .nil <| .then <| .seq <| .seq <| .reg rfl <| .opp (P.mov .g0) rfl <| .opg (G.nilr (e := 9) .t0 Mm.m0 (by kernel_rfl) rfl) rfl fun n1 hz2 => .nil <| .then ?_
  refine .cond .t0 (fun c3 => ?_) (fun c3 => ?_)
  · have hx7 : a0 = [] := by simpa using hz2 c3
    replace h : some ([] : List ByteArray) = some r := by rw [hx7] at h; simpa [grd] using h
    refine .seq <| .reg rfl <| .opp (P.asg .k) rfl <| .nil <| .then <| .ret <| .thr ?_
    cases h
    exact .lnil 9 1 <| .finw nilSl (.r1 rfl (.tmp .g0)) trivial (Ls.of (.cons .k0 .nil)) .nil
  · refine .skip <| .then <| .seq <| .reg rfl <| .opg (G.bsl0 runUnderlying60 sizeOf9 rfl) rfl fun u4 _ => .opp (P.mov .t1) rfl ?_
    obtain ⟨hb6, h⟩ := grd_eq h
    refine .opg (G.app (by_ := 16) .t1 .t0 .k0 (.inl Mm.m0) runUnderlying60 runUnderlying60 sizeOf9 typeInfo9 rfl rfl zeroValue9 rfl (one_map one_9 _) (by simpa using hb6) rfl) rfl fun u5 _ => .conseq .k0 (q := lst 9 1 u5 ((([] : List ByteArray) ++ a0).map (fun x => [.string x]))) (fun _ hh => by simpa [List.map_append] using hh) <| .opp (P.asg .t0) rfl <| .nil <| .then <| .ret ?_
    cases h
    exact .finw u5 (.r1 rfl (.tmp .g0)) trivial (Ls.of (.cons .k0 .nil)) .nil
attribute [irreducible] slices_Clone_string
noncomputable def auction_New (a0 : List ByteArray) : Option (auction_Room) :=
  Option.bind (slices_Clone_string a0) fun r1 => some ((⟨r1, (), true⟩ : auction_Room))
set_option maxRecDepth 20000 in
set_option maxHeartbeats 8000000 in
theorem S_auction_New (v00 : Value) (a0 : List ByteArray) (r : auction_Room) (h : auction_New a0 = some r) :
    SpecF Tryz.prog 42 [v00] [] [rows 1 v00 (a0.map (fun x => [.string x]))] (fun z : Nat × Value => True) (fun z => pt z.1 0) (fun z M => blk z.1 165 (auction_Room.cs r z.2) :: lst 9 1 z.2 (r.roots.map (fun x => [.string x])) ::  M) (fun z M =>  M) := by
  refine .of func42 rfl ntmps42 rfl fun w0 D0 G0 => ?_
  unfold auction_New at h
  refine .seq <| .reg rfl <| .op0 (OpP.toV (P.asg .k)) rfl <| .nil <| .then <| .seq <| .reg rfl <| .opp (P.mov .t0) rfl ?_
  obtain ⟨r1, hr2, h⟩ := bnd_eq h
  refine .opg (G.call call41 (.cons .t0 .nil) (S_slices_Clone_string v00 a0 r1 hr2) .nil (.cons Mm.m0 .nil) (fun _ _ => rfl) (fun _ _ => rfl) rfl) rfl fun u3 _ => .cell .k0 fun hv4 => .opp (P.bld (v := Ag (auction_Room.cs ⟨[], (), true⟩ u3)) (.cons .t0 (.cons .k .nil)) (bld_run zeroValue165 runUnderlying165 pl_165 (by obtain ⟨_, _, _, rfl⟩ := hv4; kernel_rfl))) rfl <| .opx (X.box (cs := (auction_Room.cs ⟨[], (), true⟩ u3)) .t0 rfl) rfl fun b5 => .opp (P.asg .t0) rfl <| .nil <| .then <| .ret ?_
  cases h
  exact .finw ⟨b5, u3⟩ (.r1 rfl (.tmp .g0)) trivial (Ls.of (.cons .k0 (.cons .k0 .nil))) .nil
attribute [irreducible] auction_New
noncomputable def client_New (a0 : Int) (a1 : List ByteArray) (a2 : Int) (a3 : Int) : Option ((Option client_Client) × Int) :=
  thn (if (decide (a0 < 0)) = true then true else (decide (a0 ≥ 2))) fun (y1 : Bool) => if y1 = true then (some (none, 4)) else (Option.bind (client_Seed a0) fun r6 => Option.bind (mss_Root r6) fun r8 => Option.bind (slices_Clone_string a1) fun r10 => Option.bind (auction_New a1) fun r13 => some (((some (⟨a0, (plan_Delay a2), r8, r10, (some r13), (some (disk_New a3)), (), false, true, ⟨(), [], []⟩⟩ : client_Client)), 0)))
set_option maxRecDepth 20000 in
set_option maxHeartbeats 8000000 in
theorem S_client_New (a0 : Int) (v01 : Value) (a1 : List ByteArray) (a2 : Int) (a3 : Int) (r : (Option client_Client) × Int) (h : client_New a0 a1 a2 a3 = some r) :
    SpecF Tryz.prog 20 [N a0, v01, N a2, N a3] [] [rows 1 v01 (a1.map (fun x => [.string x]))] (fun z : Value => True) (fun z => Tu [z, N r.2]) (fun z M => bx client_Client.bd client_Client.fp z r.1 ::  M) (fun z M =>  M) := by
  refine .of func20 rfl ntmps20 rfl fun w0 D0 G0 => ?_
  unfold client_New at h
  refine .seq <| .reg rfl <| .op0 (OpP.toV (P.asg .k)) rfl <| .op0 (OpP.toV (P.asg .k)) rfl <| .nil <| .then <| .seq ?_
  obtain ⟨y1, hj3, h⟩ := thn_eq h
  refine .cutx (γ := Unit) (E1 := fun z2 => [(15, Bo y1), (0, N a0), (1, v01), (2, N a2), (3, N a3)]) (L1 := fun z2 => []) (R1 := fun z2 => [rows 1 v01 (a1.map (fun x => [.string x]))]) ?_ (fun z2 => ?_)
  · clear h
    refine .reg rfl <| .opp (P.mov .g0) rfl <| .opp (P.bin .t0 .k .lss) rfl <| .opp (P.mov .t0) rfl <| .split .k0 (fun c4 => ?_) (fun c4 => ?_)
    · rw [if_pos c4] at hj3
      refine .gno rfl .g0 rfl rfl <| .gno rfl .g0 rfl rfl <| .opp (P.pickT .t0 .k) rfl <| .nil ?_
      subst hj3
      exact .stj () (.cons Mm.m0 (.cons Mm.m1 (.cons Mm.m2 (.cons Mm.m3 (.cons Mm.m4 .nil))))) (.of .nil) (.cons Mm.m0 .nil)
    · rw [if_neg (ne_true_of_eq_false c4)] at hj3
      refine .gyes rfl .g0 <| .opp (P.mov .g1) rfl <| .gyes rfl .g1 <| .opp (P.bin .t0 .k .geq) rfl <| .opp (P.pickF .t1 .t0) rfl <| .nil ?_
      subst hj3
      exact .stj () (.cons Mm.m0 (.cons Mm.m1 (.cons Mm.m2 (.cons Mm.m3 (.cons Mm.m4 .nil))))) (.of .nil) (.cons Mm.m0 .nil)
  · clear hj3
    refine .cond .t0 (fun c5 => ?_) (fun c5 => ?_)
    · rw [if_pos c5] at h
      refine .seq <| .reg rfl <| .opp (P.asg .k) rfl <| .opp (P.asg .k) rfl <| .nil <| .then <| .ret <| .thr ?_
      cases h
      exact .bxn client_Client.bd client_Client.fp <| .finw nilp (.r2 rfl (.tmp .g1) (.tmp .g0)) trivial (Ls.of (.cons .k0 .nil)) .nil
    · rw [if_neg (ne_true_of_eq_false c5)] at h
      refine .skip <| .then <| .seq <| .reg rfl <| .opp (P.mov .g0) rfl <| .opp (P.mov .t3) rfl <| .opg (G.call call35 (.cons .t0 .nil) (S_plan_Delay a2 _ rfl) .nil .nil (fun _ _ => rfl) (fun _ _ => rfl) rfl) rfl fun _ _ => .opp (P.mov .t2) rfl ?_
      obtain ⟨r6, hr7, h⟩ := bnd_eq h
      refine .opg (G.call call40 (.cons .t0 .nil) (S_client_Seed a0 r6 hr7) .nil .nil (fun _ _ => rfl) (fun _ _ => rfl) rfl) rfl fun _ _ => ?_
      obtain ⟨r8, hr9, h⟩ := bnd_eq h
      refine .opg (G.call call15 (.cons .t0 .nil) (S_mss_Root r6 r8 hr9) .nil .nil (fun _ _ => rfl) (fun _ _ => rfl) rfl) rfl fun _ _ => .opp (P.mov .g3) rfl ?_
      obtain ⟨r10, hr11, h⟩ := bnd_eq h
      refine .opg (G.call call41 (.cons .t0 .nil) (S_slices_Clone_string v01 a1 r10 hr11) .nil (.cons Mm.m0 .nil) (fun _ _ => rfl) (fun _ _ => rfl) rfl) rfl fun u12 _ => .opp (P.mov .t4) rfl ?_
      obtain ⟨r13, hr14, h⟩ := bnd_eq h
      refine .opg (G.call call42 (.cons .t0 .nil) (S_auction_New v01 a1 r13 hr14) .nil (.cons Mm.m0 .nil) (fun _ _ => rfl) (fun _ _ => rfl) rfl) rfl fun ⟨b15, u16⟩ _ => .opp (P.mov .t5) rfl <| .opg (G.call call36 (.cons .t0 .nil) (S_disk_New a3 _ rfl) .nil .nil (fun _ _ => rfl) (fun _ _ => rfl) rfl) rfl fun ⟨b17, u18⟩ _ => .cell .k4 fun hv19 => .opp (P.bld (v := Ag (client_Client.cs ⟨a0, (plan_Delay a2), r8, [], none, none, (), false, true, ⟨(), [], []⟩⟩ u12 (pt b15 0) (pt b17 0) nilSl nilSl)) (.cons .t5 (.cons .t4 (.cons .t3 (.cons .t2 (.cons .t1 (.cons .t0 (.cons .k .nil))))))) (bld_run zeroValue122 runUnderlying122 pl_122 (by obtain ⟨_, _, _, rfl⟩ := hv19; kernel_rfl))) rfl <| .opx (X.box (cs := (client_Client.cs ⟨a0, (plan_Delay a2), r8, [], none, none, (), false, true, ⟨(), [], []⟩⟩ u12 (pt b15 0) (pt b17 0) nilSl nilSl)) .t0 rfl) rfl fun b20 => .opp (P.asg .t0) rfl <| .opp (P.asg .k) rfl <| .nil <| .then <| .ret ?_
      cases h
      exact .bxc auction_Room.bd auction_Room.fp (b15, u16) r13 (z := (pt b15 0)) rfl (.cons .k3 (.cons .k3 .nil)) <| .bxc disk_Disk.bd disk_Disk.fp (b17, u18) (disk_New a3) (z := (pt b17 0)) rfl (.cons .k2 (.cons .k2 .nil)) <| .lnil 176 43 <| .lnil 181 26 <| .bxc client_Client.bd client_Client.fp (b20, u12, (pt b15 0), (pt b17 0), nilSl, nilSl) (⟨a0, (plan_Delay a2), r8, r10, (some r13), (some (disk_New a3)), (), false, true, ⟨(), [], []⟩⟩ : client_Client) (z := (pt b20 0)) rfl (.cons .k4 (.cons .k4 (.cons .k3 (.cons .k2 (.cons .k1 (.cons .k0 .nil)))))) <| .finw (pt b20 0) (.r2 rfl (.tmp .g1) (.tmp .g0)) trivial (Ls.of (.cons .k0 .nil)) .nil
attribute [irreducible] client_New
noncomputable def relay_New  : relay_Relay :=
  (⟨[], true⟩ : relay_Relay)
set_option maxRecDepth 20000 in
set_option maxHeartbeats 8000000 in
theorem S_relay_New  (r : relay_Relay) (h : relay_New  = r) :
    SpecF Tryz.prog 21 [] [] [] (fun z : Nat × Value => True) (fun z => pt z.1 0) (fun z M => blk z.1 124 (relay_Relay.cs r z.2) :: lst 176 43 z.2 (r.jobs.map api_Message.cs) ::  M) (fun z M =>  M) := by
  refine .of func21 rfl ntmps21 rfl fun w0 D0 G0 => ?_
  unfold relay_New at h
  refine .seq <| .reg rfl <| .op0 (OpP.toV (P.asg .k)) rfl <| .nil <| .then <| .seq <| .reg rfl <| .opp (P.bld (v := Ag (relay_Relay.cs ⟨[], true⟩ nilSl)) (.cons .k .nil) (bld_run zeroValue124 runUnderlying124 pl_124 (by kernel_rfl))) rfl <| .opx (X.box (cs := (relay_Relay.cs ⟨[], true⟩ nilSl)) .t0 rfl) rfl fun b1 => .opp (P.asg .t0) rfl <| .nil <| .then ?_
  refine .ret ?_
  subst h
  exact .lnil 176 43 <| .finw ⟨b1, nilSl⟩ (.r1 rfl (.tmp .g0)) trivial (Ls.of (.cons .k1 (.cons .k0 .nil))) .nil
attribute [irreducible] relay_New
noncomputable def world_New (a0 : world_Setup) : Option ((Option world_World) × Int) :=
  thn (if (decide (a0.Delay < 1)) = true then true else (if (decide (a0.Delay > 4)) = true then true else (if (decide (a0.Skew < (-100))) = true then true else (if (decide (a0.Skew > 100)) = true then true else (if (decide (a0.Corrupt < 0)) = true then true else (if (decide (a0.Corrupt ≥ 32)) = true then true else (if (decide (a0.Room < 0)) = true then true else (decide (a0.Room > 65536))))))))) fun (y2 : Bool) => if y2 = true then (some (none, 4)) else (Option.bind (Option.bind (bid_Seed 2) fun r29 => Option.bind (mss_Root r29) fun r31 => Option.bind (world_World_corrupt (⟨a0, ⟨(some (chain_New 0 1000)), (some (chain_New 1 (IntKind.i64.wrap (1000 + a0.Skew))))⟩, ⟨none, none⟩, ⟨none, none⟩, none, (), 0, ⟨0, 0, 0, 0⟩, ⟨false, false, false, false⟩, (some ([])), (some ([])), (some ([])), (some ([])), ⟨0, 0⟩, false, false⟩ : world_World) 2) fun r35 => if (!r35) = true then (Option.bind (world_World_fill (⟨a0, ⟨(some (chain_New 0 1000)), (some (chain_New 1 (IntKind.i64.wrap (1000 + a0.Skew))))⟩, ⟨none, none⟩, ⟨(router_New 2 a0.Delay a0.Room).1, none⟩, none, (), 0, ⟨0, 0, 0, 0⟩, ⟨false, false, false, false⟩, (some ([])), (some ([])), (some ([])), (some ([])), ⟨0, 0⟩, false, false⟩ : world_World) 2) fun r40 => some (r40.setup, r40.sides, r40.routers.a0, r40.now, r40.seen, r40.late, r40.since, r40.told, r40.keys, r40.digests, r40.asked, r40.forged, r40.clash, [r31])) else (some ((a0, ⟨(some (chain_New 0 1000)), (some (chain_New 1 (IntKind.i64.wrap (1000 + a0.Skew))))⟩, none, 0, ⟨0, 0, 0, 0⟩, ⟨false, false, false, false⟩, (some ([])), (some ([])), (some ([])), (some ([])), ⟨0, 0⟩, false, false, [r31])))) fun (y26 : world_Setup × A2_chain_Chain × (Option router_Router) × Int × A4_i64 × A4_bool × (Option (List (world_place × Int))) × (Option (List (world_word × Bool))) × (Option (List (ByteArray × api_Inv))) × (Option (List (ByteArray × world_data))) × A2_i64 × Bool × Bool × (List ByteArray)) => Option.bind (Option.bind (bid_Seed 3) fun r45 => Option.bind (mss_Root r45) fun r47 => grd ((y26.2.2.2.2.2.2.2.2.2.2.2.2.2.length + ([r47] : List ByteArray).length) * 16 ≤ 140737488355328) <| Option.bind (world_World_corrupt (⟨y26.1, y26.2.1, ⟨none, none⟩, ⟨y26.2.2.1, none⟩, none, (), y26.2.2.2.1, y26.2.2.2.2.1, y26.2.2.2.2.2.1, y26.2.2.2.2.2.2.1, y26.2.2.2.2.2.2.2.1, y26.2.2.2.2.2.2.2.2.1, y26.2.2.2.2.2.2.2.2.2.1, y26.2.2.2.2.2.2.2.2.2.2.1, y26.2.2.2.2.2.2.2.2.2.2.2.1, y26.2.2.2.2.2.2.2.2.2.2.2.2.1⟩ : world_World) 3) fun r52 => if (!r52) = true then (Option.bind (world_World_fill (⟨y26.1, y26.2.1, ⟨none, none⟩, ⟨y26.2.2.1, (router_New 3 a0.Delay a0.Room).1⟩, none, (), y26.2.2.2.1, y26.2.2.2.2.1, y26.2.2.2.2.2.1, y26.2.2.2.2.2.2.1, y26.2.2.2.2.2.2.2.1, y26.2.2.2.2.2.2.2.2.1, y26.2.2.2.2.2.2.2.2.2.1, y26.2.2.2.2.2.2.2.2.2.2.1, y26.2.2.2.2.2.2.2.2.2.2.2.1, y26.2.2.2.2.2.2.2.2.2.2.2.2.1⟩ : world_World) 3) fun r57 => some ((r57.setup, r57.sides, r57.routers, r57.now, r57.seen, r57.late, r57.since, r57.told, r57.keys, r57.digests, r57.asked, r57.forged, r57.clash, (y26.2.2.2.2.2.2.2.2.2.2.2.2.2 ++ ([r47] : List ByteArray))))) else (some ((y26.1, y26.2.1, ⟨y26.2.2.1, none⟩, y26.2.2.2.1, y26.2.2.2.2.1, y26.2.2.2.2.2.1, y26.2.2.2.2.2.2.1, y26.2.2.2.2.2.2.2.1, y26.2.2.2.2.2.2.2.2.1, y26.2.2.2.2.2.2.2.2.2.1, y26.2.2.2.2.2.2.2.2.2.2.1, y26.2.2.2.2.2.2.2.2.2.2.2.1, y26.2.2.2.2.2.2.2.2.2.2.2.2.1, (y26.2.2.2.2.2.2.2.2.2.2.2.2.2 ++ ([r47] : List ByteArray)))))) fun (y42 : world_Setup × A2_chain_Chain × A2_router_Router × Int × A4_i64 × A4_bool × (Option (List (world_place × Int))) × (Option (List (world_word × Bool))) × (Option (List (ByteArray × api_Inv))) × (Option (List (ByteArray × world_data))) × A2_i64 × Bool × Bool × (List ByteArray)) => Option.bind (Option.bind (world_World_corrupt (⟨y42.1, y42.2.1, ⟨none, none⟩, y42.2.2.1, none, (), y42.2.2.2.1, y42.2.2.2.2.1, y42.2.2.2.2.2.1, y42.2.2.2.2.2.2.1, y42.2.2.2.2.2.2.2.1, y42.2.2.2.2.2.2.2.2.1, y42.2.2.2.2.2.2.2.2.2.1, y42.2.2.2.2.2.2.2.2.2.2.1, y42.2.2.2.2.2.2.2.2.2.2.2.1, y42.2.2.2.2.2.2.2.2.2.2.2.2.1⟩ : world_World) 0) fun r62 => if (!r62) = true then (Option.bind (client_New 0 y42.2.2.2.2.2.2.2.2.2.2.2.2.2 a0.Delay a0.Room) fun r65 => some r65.1) else (some none)) fun (y59 : (Option client_Client)) => Option.bind (Option.bind (world_World_corrupt (⟨y42.1, y42.2.1, ⟨y59, none⟩, y42.2.2.1, none, (), y42.2.2.2.1, y42.2.2.2.2.1, y42.2.2.2.2.2.1, y42.2.2.2.2.2.2.1, y42.2.2.2.2.2.2.2.1, y42.2.2.2.2.2.2.2.2.1, y42.2.2.2.2.2.2.2.2.2.1, y42.2.2.2.2.2.2.2.2.2.2.1, y42.2.2.2.2.2.2.2.2.2.2.2.1, y42.2.2.2.2.2.2.2.2.2.2.2.2.1⟩ : world_World) 1) fun r72 => if (!r72) = true then (Option.bind (client_New 1 y42.2.2.2.2.2.2.2.2.2.2.2.2.2 a0.Delay a0.Room) fun r75 => some r75.1) else (some none)) fun (y69 : (Option client_Client)) => Option.bind (Option.bind (world_World_corrupt (⟨y42.1, y42.2.1, ⟨y59, y69⟩, y42.2.2.1, none, (), y42.2.2.2.1, y42.2.2.2.2.1, y42.2.2.2.2.2.1, y42.2.2.2.2.2.2.1, y42.2.2.2.2.2.2.2.1, y42.2.2.2.2.2.2.2.2.1, y42.2.2.2.2.2.2.2.2.2.1, y42.2.2.2.2.2.2.2.2.2.2.1, y42.2.2.2.2.2.2.2.2.2.2.2.1, y42.2.2.2.2.2.2.2.2.2.2.2.2.1⟩ : world_World) 4) fun r82 => if (!r82) = true then (some (some relay_New)) else (some none)) fun (y79 : (Option relay_Relay)) => some (((some (⟨y42.1, y42.2.1, ⟨y59, y69⟩, y42.2.2.1, y79, (), y42.2.2.2.1, y42.2.2.2.2.1, y42.2.2.2.2.2.1, y42.2.2.2.2.2.2.1, y42.2.2.2.2.2.2.2.1, y42.2.2.2.2.2.2.2.2.1, y42.2.2.2.2.2.2.2.2.2.1, y42.2.2.2.2.2.2.2.2.2.2.1, y42.2.2.2.2.2.2.2.2.2.2.2.1, y42.2.2.2.2.2.2.2.2.2.2.2.2.1⟩ : world_World)), 0)))
set_option maxRecDepth 20000 in
set_option maxHeartbeats 8000000 in
theorem S_world_New (a0 : world_Setup) (r : (Option world_World) × Int) (h : world_New a0 = some r) :
    SpecF Tryz.prog 6 [Ag (world_Setup.cs a0)] [] [] (fun z : Value => True) (fun z => Tu [z, N r.2]) (fun z M => bx world_World.bd world_World.fp z r.1 ::  M) (fun z M =>  M) := by
  refine .of func6 rfl ntmps6 rfl fun w0 D0 G0 => ?_
  unfold world_New at h
  refine .seq <| .reg rfl <| .opx (X.box (cs := (world_Setup.cs a0)) .t0 rfl) rfl fun b1 => .op0 (OpP.toV (P.asg .k)) rfl <| .op0 (OpP.toV (P.asg .k)) rfl <| .nil <| .then <| .seq ?_
  obtain ⟨y2, hj4, h⟩ := thn_eq h
  refine .cutx (γ := Unit) (E1 := fun z3 => [(46, Bo y2), (1, pt b1 0)]) (L1 := fun z3 => [blk b1 23 (world_Setup.cs a0)]) (R1 := fun z3 => []) ?_ (fun z3 => ?_)
  · clear h
    refine .reg rfl <| .opp (P.fa .g0 fa_23_0 rfl) rfl <| .op (V.ld (v := N a0.Delay) .t0 .k0 (.one isAgg3 rfl)) rfl <| .opp (P.bin .t0 .k .lss) rfl <| .opp (P.mov .t0) rfl <| .split .k0 (fun c5 => ?_) (fun c5 => ?_)
    · rw [if_pos c5] at hj4
      refine .gno rfl .g0 rfl rfl <| .gno rfl .g0 rfl rfl <| .gno rfl .g0 rfl rfl <| .opp (P.pickT .t0 .k) rfl <| .opp (P.mov .t0) rfl <| .gno rfl .g0 rfl rfl <| .gno rfl .g0 rfl rfl <| .gno rfl .g0 rfl rfl <| .opp (P.pickT .t0 .k) rfl <| .opp (P.mov .t0) rfl <| .gno rfl .g0 rfl rfl <| .gno rfl .g0 rfl rfl ?_
      refine .gno rfl .g0 rfl rfl <| .opp (P.pickT .t0 .k) rfl <| .opp (P.mov .t0) rfl <| .gno rfl .g0 rfl rfl <| .gno rfl .g0 rfl rfl <| .gno rfl .g0 rfl rfl <| .opp (P.pickT .t0 .k) rfl <| .opp (P.mov .t0) rfl <| .gno rfl .g0 rfl rfl <| .gno rfl .g0 rfl rfl <| .gno rfl .g0 rfl rfl <| .opp (P.pickT .t0 .k) rfl ?_
      refine .opp (P.mov .t0) rfl <| .gno rfl .g0 rfl rfl <| .gno rfl .g0 rfl rfl <| .gno rfl .g0 rfl rfl <| .opp (P.pickT .t0 .k) rfl <| .opp (P.mov .t0) rfl <| .gno rfl .g0 rfl rfl <| .gno rfl .g0 rfl rfl <| .gno rfl .g0 rfl rfl <| .opp (P.pickT .t0 .k) rfl <| .nil ?_
      subst hj4
      exact .stj () (.cons Mm.m0 (.cons Mm.m1 .nil)) (.of (.cons .k0 .nil)) .nil
    · rw [if_neg (ne_true_of_eq_false c5)] at hj4
      refine .gyes rfl .g0 <| .opp (P.fa .g1 fa_23_0 rfl) rfl <| .gyes rfl .g1 <| .op (V.ld (v := N a0.Delay) .t0 .k0 (.one isAgg3 rfl)) rfl <| .gyes rfl .g1 <| .opp (P.bin .t0 .k .gtr) rfl <| .opp (P.pickF .t1 .t0) rfl <| .opp (P.mov .t0) rfl <| .split .k0 (fun c6 => ?_) (fun c6 => ?_)
      · rw [if_pos c6] at hj4
        refine .gno rfl .g0 rfl rfl <| .gno rfl .g0 rfl rfl <| .gno rfl .g0 rfl rfl <| .opp (P.pickT .t0 .k) rfl <| .opp (P.mov .t0) rfl <| .gno rfl .g0 rfl rfl <| .gno rfl .g0 rfl rfl <| .gno rfl .g0 rfl rfl <| .opp (P.pickT .t0 .k) rfl <| .opp (P.mov .t0) rfl <| .gno rfl .g0 rfl rfl <| .gno rfl .g0 rfl rfl ?_
        refine .gno rfl .g0 rfl rfl <| .opp (P.pickT .t0 .k) rfl <| .opp (P.mov .t0) rfl <| .gno rfl .g0 rfl rfl <| .gno rfl .g0 rfl rfl <| .gno rfl .g0 rfl rfl <| .opp (P.pickT .t0 .k) rfl <| .opp (P.mov .t0) rfl <| .gno rfl .g0 rfl rfl <| .gno rfl .g0 rfl rfl <| .gno rfl .g0 rfl rfl <| .opp (P.pickT .t0 .k) rfl ?_
        refine .opp (P.mov .t0) rfl <| .gno rfl .g0 rfl rfl <| .gno rfl .g0 rfl rfl <| .gno rfl .g0 rfl rfl <| .opp (P.pickT .t0 .k) rfl <| .nil ?_
        subst hj4
        exact .stj () (.cons Mm.m0 (.cons Mm.m1 .nil)) (.of (.cons .k0 .nil)) .nil
      · rw [if_neg (ne_true_of_eq_false c6)] at hj4
        refine .gyes rfl .g0 <| .opp (P.fa .g1 fa_23_1 rfl) rfl <| .gyes rfl .g1 <| .op (V.ld (v := N a0.Skew) .t0 .k0 (.one isAgg3 rfl)) rfl <| .gyes rfl .g1 <| .opp (P.bin .t0 .k .lss) rfl <| .opp (P.pickF .t1 .t0) rfl <| .opp (P.mov .t0) rfl <| .split .k0 (fun c7 => ?_) (fun c7 => ?_)
        · rw [if_pos c7] at hj4
          refine .gno rfl .g0 rfl rfl <| .gno rfl .g0 rfl rfl <| .gno rfl .g0 rfl rfl <| .opp (P.pickT .t0 .k) rfl <| .opp (P.mov .t0) rfl <| .gno rfl .g0 rfl rfl <| .gno rfl .g0 rfl rfl <| .gno rfl .g0 rfl rfl <| .opp (P.pickT .t0 .k) rfl <| .opp (P.mov .t0) rfl <| .gno rfl .g0 rfl rfl <| .gno rfl .g0 rfl rfl ?_
          refine .gno rfl .g0 rfl rfl <| .opp (P.pickT .t0 .k) rfl <| .opp (P.mov .t0) rfl <| .gno rfl .g0 rfl rfl <| .gno rfl .g0 rfl rfl <| .gno rfl .g0 rfl rfl <| .opp (P.pickT .t0 .k) rfl <| .opp (P.mov .t0) rfl <| .gno rfl .g0 rfl rfl <| .gno rfl .g0 rfl rfl <| .gno rfl .g0 rfl rfl <| .opp (P.pickT .t0 .k) rfl ?_
          refine .nil ?_
          subst hj4
          exact .stj () (.cons Mm.m0 (.cons Mm.m1 .nil)) (.of (.cons .k0 .nil)) .nil
        · rw [if_neg (ne_true_of_eq_false c7)] at hj4
          refine .gyes rfl .g0 <| .opp (P.fa .g1 fa_23_1 rfl) rfl <| .gyes rfl .g1 <| .op (V.ld (v := N a0.Skew) .t0 .k0 (.one isAgg3 rfl)) rfl <| .gyes rfl .g1 <| .opp (P.bin .t0 .k .gtr) rfl <| .opp (P.pickF .t1 .t0) rfl <| .opp (P.mov .t0) rfl <| .split .k0 (fun c8 => ?_) (fun c8 => ?_)
          · rw [if_pos c8] at hj4
            refine .gno rfl .g0 rfl rfl <| .gno rfl .g0 rfl rfl <| .gno rfl .g0 rfl rfl <| .opp (P.pickT .t0 .k) rfl <| .opp (P.mov .t0) rfl <| .gno rfl .g0 rfl rfl <| .gno rfl .g0 rfl rfl <| .gno rfl .g0 rfl rfl <| .opp (P.pickT .t0 .k) rfl <| .opp (P.mov .t0) rfl <| .gno rfl .g0 rfl rfl <| .gno rfl .g0 rfl rfl ?_
            refine .gno rfl .g0 rfl rfl <| .opp (P.pickT .t0 .k) rfl <| .opp (P.mov .t0) rfl <| .gno rfl .g0 rfl rfl <| .gno rfl .g0 rfl rfl <| .gno rfl .g0 rfl rfl <| .opp (P.pickT .t0 .k) rfl <| .nil ?_
            subst hj4
            exact .stj () (.cons Mm.m0 (.cons Mm.m1 .nil)) (.of (.cons .k0 .nil)) .nil
          · rw [if_neg (ne_true_of_eq_false c8)] at hj4
            refine .gyes rfl .g0 <| .opp (P.fa .g1 fa_23_2 rfl) rfl <| .gyes rfl .g1 <| .op (V.ld (v := N a0.Corrupt) .t0 .k0 (.one isAgg3 rfl)) rfl <| .gyes rfl .g1 <| .opp (P.bin .t0 .k .lss) rfl <| .opp (P.pickF .t1 .t0) rfl <| .opp (P.mov .t0) rfl <| .split .k0 (fun c9 => ?_) (fun c9 => ?_)
            · rw [if_pos c9] at hj4
              refine .gno rfl .g0 rfl rfl <| .gno rfl .g0 rfl rfl <| .gno rfl .g0 rfl rfl <| .opp (P.pickT .t0 .k) rfl <| .opp (P.mov .t0) rfl <| .gno rfl .g0 rfl rfl <| .gno rfl .g0 rfl rfl <| .gno rfl .g0 rfl rfl <| .opp (P.pickT .t0 .k) rfl <| .opp (P.mov .t0) rfl <| .gno rfl .g0 rfl rfl <| .gno rfl .g0 rfl rfl ?_
              refine .gno rfl .g0 rfl rfl <| .opp (P.pickT .t0 .k) rfl <| .nil ?_
              subst hj4
              exact .stj () (.cons Mm.m0 (.cons Mm.m1 .nil)) (.of (.cons .k0 .nil)) .nil
            · rw [if_neg (ne_true_of_eq_false c9)] at hj4
              refine .gyes rfl .g0 <| .opp (P.fa .g1 fa_23_2 rfl) rfl <| .gyes rfl .g1 <| .op (V.ld (v := N a0.Corrupt) .t0 .k0 (.one isAgg3 rfl)) rfl <| .gyes rfl .g1 <| .opp (P.bin .t0 .k .geq) rfl <| .opp (P.pickF .t1 .t0) rfl <| .opp (P.mov .t0) rfl <| .split .k0 (fun c10 => ?_) (fun c10 => ?_)
              · rw [if_pos c10] at hj4
                refine .gno rfl .g0 rfl rfl <| .gno rfl .g0 rfl rfl <| .gno rfl .g0 rfl rfl <| .opp (P.pickT .t0 .k) rfl <| .opp (P.mov .t0) rfl <| .gno rfl .g0 rfl rfl <| .gno rfl .g0 rfl rfl <| .gno rfl .g0 rfl rfl <| .opp (P.pickT .t0 .k) rfl <| .nil ?_
                subst hj4
                exact .stj () (.cons Mm.m0 (.cons Mm.m1 .nil)) (.of (.cons .k0 .nil)) .nil
              · rw [if_neg (ne_true_of_eq_false c10)] at hj4
                refine .gyes rfl .g0 <| .opp (P.fa .g1 fa_23_3 rfl) rfl <| .gyes rfl .g1 <| .op (V.ld (v := N a0.Room) .t0 .k0 (.one isAgg3 rfl)) rfl <| .gyes rfl .g1 <| .opp (P.bin .t0 .k .lss) rfl <| .opp (P.pickF .t1 .t0) rfl <| .opp (P.mov .t0) rfl <| .split .k0 (fun c11 => ?_) (fun c11 => ?_)
                · rw [if_pos c11] at hj4
                  refine .gno rfl .g0 rfl rfl <| .gno rfl .g0 rfl rfl <| .gno rfl .g0 rfl rfl <| .opp (P.pickT .t0 .k) rfl <| .nil ?_
                  subst hj4
                  exact .stj () (.cons Mm.m0 (.cons Mm.m1 .nil)) (.of (.cons .k0 .nil)) .nil
                · rw [if_neg (ne_true_of_eq_false c11)] at hj4
                  refine .gyes rfl .g0 <| .opp (P.fa .g1 fa_23_3 rfl) rfl <| .gyes rfl .g1 <| .op (V.ld (v := N a0.Room) .t0 .k0 (.one isAgg3 rfl)) rfl <| .gyes rfl .g1 <| .opp (P.bin .t0 .k .gtr) rfl <| .opp (P.pickF .t1 .t0) rfl <| .nil ?_
                  subst hj4
                  exact .stj () (.cons Mm.m0 (.cons Mm.m1 .nil)) (.of (.cons .k0 .nil)) .nil
  · clear hj4
    refine .cond .t0 (fun c12 => ?_) (fun c12 => ?_)
    · rw [if_pos c12] at h
      refine .seq <| .reg rfl <| .opp (P.asg .k) rfl <| .opp (P.asg .k) rfl <| .nil <| .then <| .ret <| .thr ?_
      cases h
      exact .bxn world_World.bd world_World.fp <| .finw nilp (.r2 rfl (.tmp .g1) (.tmp .g0)) trivial (Ls.of (.cons .k0 .nil)) .nil
    · rw [if_neg (ne_true_of_eq_false c12)] at h
      refine .skip <| .then <| .seq <| .reg rfl <| .op (V.ld (v := Ag (world_Setup.cs a0)) .g0 .k0 (.agg isAgg23 sizeOf23 rfl rfl)) rfl <| .opx (X.mkm (f := (fun (x : world_place) => Ag x.cs)) (g := (fun (x : Int) => N x))) rfl fun b13 => .opx (X.mkm (f := (fun (x : world_word) => Ag x.cs)) (g := (fun (x : Bool) => Bo x))) rfl fun b14 => .opx (X.mkm (f := (fun (x : ByteArray) => Value.string x)) (g := (fun (x : api_Inv) => Ag x.cs))) rfl fun b15 => .opx (X.mkm (f := (fun (x : ByteArray) => Value.string x)) (g := (fun (x : world_data) => Ag x.cs))) rfl fun b16 => .opp (P.bld (v := Ag (world_World.cs ⟨a0, ⟨none, none⟩, ⟨none, none⟩, ⟨none, none⟩, none, (), 0, ⟨0, 0, 0, 0⟩, ⟨false, false, false, false⟩, none, none, none, none, ⟨0, 0⟩, false, false⟩ nilp nilp nilp nilp nilp nilp nilp (.map (some b13)) (.map (some b14)) (.map (some b15)) (.map (some b16)))) (.cons .t4 (.cons .t3 (.cons .t2 (.cons .t1 (.cons .t0 .nil))))) (bld_run zeroValue58 runUnderlying58 pl_58 (by kernel_rfl))) rfl <| .opx (X.box (cs := (world_World.cs ⟨a0, ⟨none, none⟩, ⟨none, none⟩, ⟨none, none⟩, none, (), 0, ⟨0, 0, 0, 0⟩, ⟨false, false, false, false⟩, none, none, none, none, ⟨0, 0⟩, false, false⟩ nilp nilp nilp nilp nilp nilp nilp (.map (some b13)) (.map (some b14)) (.map (some b15)) (.map (some b16)))) .t0 rfl) rfl fun b17 => .opp (P.asg .t0) rfl ?_
      refine .nil <| .then <| .seq <| .drawl [mpo (fun (x : ByteArray) => Value.string x) (fun (x : world_data) => Ag x.cs) b16 ([]), mpo (fun (x : ByteArray) => Value.string x) (fun (x : api_Inv) => Ag x.cs) b15 ([]), mpo (fun (x : world_word) => Ag x.cs) (fun (x : Bool) => Bo x) b14 ([]), mpo (fun (x : world_place) => Ag x.cs) (fun (x : Int) => N x) b13 ([]), blk b1 23 (world_Setup.cs a0)] [] (Ls.of (.cons .k1 (.cons .k1 (.cons .k1 (.cons .k1 (.cons .k1 .nil)))))) Rs.nil 10 (.on 0 .pu (.on 2 .pu (.on 3 .ld (.on 4 .pu (.on 1 .go (.on 5 .go (.on 6 .pu (.on 7 .pu (.on 8 .pu (.on 9 .go .nl)))))))))) follows_mixed (.thn .body) (by kernel_rfl) <| .dpu rfl (.n rfl) (P.mov .g0) rfl rfl <| .dpu rfl (.n rfl) (P.fa .g2 fa_23_1 rfl) rfl rfl <| .dld rfl (.n rfl) (V.ld (v := N a0.Skew) .t0 .k4 (.one isAgg3 rfl)) (fun _ h => (h.imp (Ls.of (.cons .k1 (.cons .k1 (.cons .k1 (.cons .k1 (.cons .k1 .nil))))))).ro Rs.nil) rfl rfl <| .dpu rfl (.n rfl) (P.bin .k .t0 .add) rfl rfl <| .dgo rfl (.n rfl) (G.call call14 (.cons .k (.cons .k .nil)) (S_chain_New 0 1000 _ rfl) .nil .nil (fun _ _ => rfl) (fun _ _ => rfl) rfl) (.inr fun _ _ _ h => (h.imp (Ls.of (.cons .k5 (.cons .k5 (.cons .k5 (.cons .k5 (.cons .k5 .nil))))))).ro Rs.nil) fun ⟨b18, u19, u20, u21⟩ _ => .dgo rfl (.n rfl) (G.call call14 (.cons .k (.cons .t1 .nil)) (S_chain_New 1 (IntKind.i64.wrap (1000 + a0.Skew)) _ rfl) .nil .nil (fun _ _ => rfl) (fun _ _ => rfl) rfl) (.inr fun _ _ _ h => (h.imp (Ls.of (.cons .k9 (.cons .k9 (.cons .k9 (.cons .k9 (.cons .k9 .nil))))))).ro Rs.nil) fun ⟨b22, u23, u24, u25⟩ _ => .dpu rfl (.n rfl) (P.bld (v := Ag (A2_chain_Chain.cs ⟨none, none⟩ (pt b18 0) (pt b22 0))) (.cons .t1 (.cons .t0 .nil)) (bld_runA zeroValue48 runUnderlying48 sizeOf32 (by kernel_rfl))) rfl rfl <| .dpu rfl (.n rfl) (P.nilc .t1) rfl rfl ?_
      refine .dpu rfl (.n rfl) (P.fa .t0 fa_58_1 rfl) rfl rfl <| .dgo rfl (.n rfl) (G.str .t1 .t0 .k8 (.mk (cs' := (world_World.cs ⟨a0, ⟨none, none⟩, ⟨none, none⟩, ⟨none, none⟩, none, (), 0, ⟨0, 0, 0, 0⟩, ⟨false, false, false, false⟩, none, none, none, none, ⟨0, 0⟩, false, false⟩ (pt b18 0) (pt b22 0) nilp nilp nilp nilp nilp (.map (some b13)) (.map (some b14)) (.map (some b15)) (.map (some b16)))) sizeOf48 rfl (onez_48 (⟨none, none⟩ : A2_chain_Chain) rfl rfl) rfl rfl)) (.inr fun _ _ _ h => (h.imp (Ls.of (.cons .k9 (.cons .k9 (.cons .k9 (.cons .k9 (.cons .k9 .nil))))))).ro Rs.nil) fun _ _ => .dnil <| .then <| .seq <| .reg rfl <| .opp (P.asg .k) rfl <| .nil <| .then <| .seq <| .seq <| .reg rfl ?_
      refine .opp (P.mov .k) rfl <| .nil <| .then <| .block <| .rounds 3 <| .rd <| .seq <| .reg rfl <| .opp (P.bin (v := Bo true) .g0 .k (BinV.lss.boolc (by decide))) rfl <| .nil <| .then <| .seq ?_
      refine .condT .t0 <| .skip <| .then ?_
      obtain ⟨y26, hj28, h⟩ := bnd_eq h
      refine .cutx (γ := Value × Value) (E1 := fun z27 => [(5, z27.1), (63, N 0), (4, pt b17 0), (1, pt b1 0)]) (L1 := fun z27 => [blk b17 58 (world_World.cs ⟨y26.1, y26.2.1, ⟨none, none⟩, ⟨y26.2.2.1, none⟩, none, (), y26.2.2.2.1, y26.2.2.2.2.1, y26.2.2.2.2.2.1, y26.2.2.2.2.2.2.1, y26.2.2.2.2.2.2.2.1, y26.2.2.2.2.2.2.2.2.1, y26.2.2.2.2.2.2.2.2.2.1, y26.2.2.2.2.2.2.2.2.2.2.1, y26.2.2.2.2.2.2.2.2.2.2.2.1, y26.2.2.2.2.2.2.2.2.2.2.2.2.1⟩ (pt b18 0) (pt b22 0) nilp nilp z27.2 nilp nilp (.map (some b13)) (.map (some b14)) (.map (some b15)) (.map (some b16))), blk b1 23 (world_Setup.cs a0), lst 9 1 z27.1 (y26.2.2.2.2.2.2.2.2.2.2.2.2.2.map (fun x => [.string x])), bx chain_Chain.bd chain_Chain.fp (pt b18 0) y26.2.1.a0, bx chain_Chain.bd chain_Chain.fp (pt b22 0) y26.2.1.a1, bx router_Router.bd router_Router.fp z27.2 y26.2.2.1, mb (fun (x : world_place) => Ag x.cs) (fun (x : Int) => N x) (.map (some b13)) y26.2.2.2.2.2.2.1, mb (fun (x : world_word) => Ag x.cs) (fun (x : Bool) => Bo x) (.map (some b14)) y26.2.2.2.2.2.2.2.1, mb (fun (x : ByteArray) => Value.string x) (fun (x : api_Inv) => Ag x.cs) (.map (some b15)) y26.2.2.2.2.2.2.2.2.1, mb (fun (x : ByteArray) => Value.string x) (fun (x : world_data) => Ag x.cs) (.map (some b16)) y26.2.2.2.2.2.2.2.2.2.1]) (R1 := fun z27 => []) ?_ (fun z27 => ?_)
      · clear h
        refine .block <| .seq <| .reg rfl <| .opp (P.mov .g0) rfl <| .opp (P.asg .t0) rfl <| .nil <| .then <| .seq <| .reg rfl <| .opp (P.mov .g0) rfl <| .opp (P.bin (v := N 2) .k .t0 (.addc (by decide))) rfl <| .opp (P.asg .t0) rfl ?_
        refine .nil <| .then <| .seq <| .reg rfl <| .opp (P.mov .g3) rfl <| .opp (P.mov .g1) rfl ?_
        obtain ⟨r29, hr30, hj28⟩ := bnd_eq hj28
        refine .opg (G.call call16 (.cons .t0 .nil) (S_bid_Seed 2 r29 hr30) .nil .nil (fun _ _ => rfl) (fun _ _ => rfl) rfl) rfl fun _ _ => ?_
        obtain ⟨r31, hr32, hj28⟩ := bnd_eq hj28
        refine .opg (G.call call15 (.cons .t0 .nil) (S_mss_Root r29 r31 hr32) .nil .nil (fun _ _ => rfl) (fun _ _ => rfl) rfl) rfl fun _ _ => .opg (G.bsl (cs := [.string r31]) .t0 runUnderlying60 sizeOf9 zeroValue9 rfl rfl rfl rfl rfl) rfl fun u33 _ => .lnil 9 1 <| .opg (G.app (by_ := 16) .t1 .t0 .k0 (.inr (.inr ⟨_, Mm.m0⟩)) runUnderlying60 runUnderlying60 sizeOf9 typeInfo9 rfl rfl zeroValue9 rfl rfl (Nat.le_of_ble_eq_true rfl) rfl) rfl fun u34 _ => .conseq .k0 (q := lst 9 1 u34 [[.string r31]]) (fun _ hh => hh) <| .drop .k4 <| .opp (P.asg .t0) rfl <| .nil <| .then <| .seq <| .reg rfl <| .opp (P.mov .g4) rfl ?_
        refine .opp (P.mov .g2) rfl <| .bxc chain_Chain.bd chain_Chain.fp (b18, u19, u20, u21) (chain_New 0 1000) (z := (pt b18 0)) rfl (.cons .k7 (.cons .k7 (.cons .k7 (.cons .k7 .nil)))) <| .bxc chain_Chain.bd chain_Chain.fp (b22, u23, u24, u25) (chain_New 1 (IntKind.i64.wrap (1000 + a0.Skew))) (z := (pt b22 0)) rfl (.cons .k4 (.cons .k4 (.cons .k4 (.cons .k4 .nil)))) <| .mbc .k8 rfl <| .mbc .k8 rfl <| .mbc .k8 rfl <| .mbc .k8 rfl <| .bxn client_Client.bd client_Client.fp <| .bxn client_Client.bd client_Client.fp <| .bxn router_Router.bd router_Router.fp <| .bxn router_Router.bd router_Router.fp <| .bxn relay_Relay.bd relay_Relay.fp ?_
        obtain ⟨r35, hr36, hj28⟩ := bnd_eq hj28
        refine .opg (G.call call17 (.cons .t1 (.cons .t0 .nil)) (S_world_World_corrupt b17 (⟨a0, ⟨(some (chain_New 0 1000)), (some (chain_New 1 (IntKind.i64.wrap (1000 + a0.Skew))))⟩, ⟨none, none⟩, ⟨none, none⟩, none, (), 0, ⟨0, 0, 0, 0⟩, ⟨false, false, false, false⟩, (some ([])), (some ([])), (some ([])), (some ([])), ⟨0, 0⟩, false, false⟩ : world_World) (pt b18 0) (pt b22 0) nilp nilp nilp nilp nilp (.map (some b13)) (.map (some b14)) (.map (some b15)) (.map (some b16)) 2 r35 hr36) (.cons .k13 (.cons .k10 (.cons .k9 (.cons .k3 (.cons .k3 (.cons .k1 (.cons .k1 (.cons .k0 (.cons .k3 (.cons .k2 (.cons .k1 (.cons .k0 .nil)))))))))))) .nil (fun _ _ => rfl) (fun _ _ => rfl) rfl) rfl fun _ _ => .opp (P.not .t0) rfl <| .nil <| .then <| .cond .t0 (fun c37 => ?_) (fun c37 => ?_)
        · rw [if_pos c37] at hj28
          refine .seq <| .drawl [bx chain_Chain.bd chain_Chain.fp (pt b18 0) (some (chain_New 0 1000)), bx chain_Chain.bd chain_Chain.fp (pt b22 0) (some (chain_New 1 (IntKind.i64.wrap (1000 + a0.Skew)))), bx client_Client.bd client_Client.fp nilp none, bx client_Client.bd client_Client.fp nilp none, bx router_Router.bd router_Router.fp nilp none, bx router_Router.bd router_Router.fp nilp none, bx relay_Relay.bd relay_Relay.fp nilp none, mb (fun (x : world_place) => Ag x.cs) (fun (x : Int) => N x) (.map (some b13)) (some ([])), mb (fun (x : world_word) => Ag x.cs) (fun (x : Bool) => Bo x) (.map (some b14)) (some ([])), mb (fun (x : ByteArray) => Value.string x) (fun (x : api_Inv) => Ag x.cs) (.map (some b15)) (some ([])), mb (fun (x : ByteArray) => Value.string x) (fun (x : world_data) => Ag x.cs) (.map (some b16)) (some ([])), lst 9 1 u34 [[.string r31]], lst 9 1 u33 [[.string r31]], blk b1 23 (world_Setup.cs a0)] [] (Ls.of (.cons .k1 (.cons .k1 (.cons .k1 (.cons .k1 (.cons .k1 (.cons .k1 (.cons .k1 (.cons .k1 (.cons .k1 (.cons .k1 (.cons .k1 (.cons .k1 (.cons .k1 (.cons .k1 .nil))))))))))))))) Rs.nil 15 (.on 0 .pu (.on 1 .pu (.on 2 .pu (.on 3 .pu (.on 5 .pu (.on 11 .pu (.on 12 .pu (.on 4 .ld (.on 6 .ld (.on 7 .go (.on 8 .pu (.on 9 .pu (.on 10 .pu (.on 13 .pu (.on 14 .go .nl))))))))))))))) follows_mixed (.thn (.inb (.thn (.thn (.inb (.thn .body)))))) (by kernel_rfl) <| .dpu rfl (.n rfl) (P.mov .g4) rfl rfl <| .dpu rfl (.n rfl) (P.mov .t3) rfl rfl <| .dpu rfl (.n rfl) (P.mov .g3) rfl rfl <| .dpu rfl (.n rfl) (P.fa .g7 fa_23_0 rfl) rfl rfl <| .dpu rfl (.n rfl) (P.fa .g8 fa_23_3 rfl) rfl rfl <| .dpu rfl (.n rfl) (P.nilc .t4) rfl rfl <| .dpu rfl (.n rfl) (P.fa .t0 fa_58_3 rfl) rfl rfl <| .dld rfl (.n rfl) (V.ld (v := N a0.Delay) .t2 .k13 (.one isAgg3 rfl)) (fun _ h => (h.imp (Ls.of (.cons .k1 (.cons .k1 (.cons .k1 (.cons .k1 (.cons .k1 (.cons .k1 (.cons .k1 (.cons .k1 (.cons .k1 (.cons .k1 (.cons .k1 (.cons .k1 (.cons .k1 (.cons .k1 .nil)))))))))))))))).ro Rs.nil) rfl rfl <| .dld rfl (.n rfl) (V.ld (v := N a0.Room) .t2 .k13 (.one isAgg3 rfl)) (fun _ h => (h.imp (Ls.of (.cons .k1 (.cons .k1 (.cons .k1 (.cons .k1 (.cons .k1 (.cons .k1 (.cons .k1 (.cons .k1 (.cons .k1 (.cons .k1 (.cons .k1 (.cons .k1 (.cons .k1 (.cons .k1 .nil)))))))))))))))).ro Rs.nil) rfl rfl <| .dgo rfl (.n rfl) (G.call call18 (.cons .t3 (.cons .t1 (.cons .t0 .nil))) (S_router_New 2 a0.Delay a0.Room _ rfl) .nil .nil (fun _ _ => rfl) (fun _ _ => rfl) rfl) (.inr fun _ _ _ h => (h.imp (Ls.of (.cons .k2 (.cons .k2 (.cons .k2 (.cons .k2 (.cons .k2 (.cons .k2 (.cons .k2 (.cons .k2 (.cons .k2 (.cons .k2 (.cons .k2 (.cons .k2 (.cons .k2 (.cons .k2 .nil)))))))))))))))).ro Rs.nil) fun u38 _ => ?_
          refine .dpu rfl (.n rfl) (P.mov .t0) rfl rfl <| .dpu rfl (.n rfl) (P.ext (v := u38) .g0 rfl) rfl rfl <| .dpu0 rfl (.n rfl) (P.ext (v := N (router_New 2 a0.Delay a0.Room).2) .t1 rfl) rfl rfl <| .dpu rfl (.n rfl) (P.iac (i := 0) .t2 rfl .t1 runUnderlying52 sizeOf51 rfl rfl) rfl rfl <| .bx1 .k0 fun ho39 => .dgo rfl (.n rfl) (G.str .t1 .t0 .k1 (.mk1 (cs' := (world_World.cs ⟨a0, ⟨none, none⟩, ⟨none, none⟩, ⟨none, none⟩, none, (), 0, ⟨0, 0, 0, 0⟩, ⟨false, false, false, false⟩, none, none, none, none, ⟨0, 0⟩, false, false⟩ (pt b18 0) (pt b22 0) nilp nilp u38 nilp nilp (.map (some b13)) (.map (some b14)) (.map (some b15)) (.map (some b16)))) sizeOf51 rfl ho39 rfl rfl)) (.inr fun _ _ _ h => (h.imp (Ls.of (.cons .k2 (.cons .k2 (.cons .k2 (.cons .k2 (.cons .k2 (.cons .k2 (.cons .k2 (.cons .k2 (.cons .k2 (.cons .k2 (.cons .k2 (.cons .k2 (.cons .k2 (.cons .k2 .nil)))))))))))))))).ro Rs.nil) fun _ _ => .dnil <| .then <| .reg rfl <| .opp (P.mov .g3) rfl <| .opp (P.mov .t2) rfl ?_
          obtain ⟨r40, hr41, hj28⟩ := bnd_eq hj28
          refine .opg (G.call call19 (.cons .t1 (.cons .t0 .nil)) (S_world_World_fill b17 (⟨a0, ⟨(some (chain_New 0 1000)), (some (chain_New 1 (IntKind.i64.wrap (1000 + a0.Skew))))⟩, ⟨none, none⟩, ⟨(router_New 2 a0.Delay a0.Room).1, none⟩, none, (), 0, ⟨0, 0, 0, 0⟩, ⟨false, false, false, false⟩, (some ([])), (some ([])), (some ([])), (some ([])), ⟨0, 0⟩, false, false⟩ : world_World) (pt b18 0) (pt b22 0) nilp nilp u38 nilp nilp (.map (some b13)) (.map (some b14)) (.map (some b15)) (.map (some b16)) 2 r40 hr41) (.cons .k0 (.cons .k1 (.cons .k1 (.cons .k1 (.cons .k1 (.cons .k0 (.cons .k0 (.cons .k1 (.cons .k1 (.cons .k1 (.cons .k1 (.cons .k1 .nil)))))))))))) .nil (fun _ _ => rfl) (fun _ _ => rfl) rfl) rfl fun _ _ => .conseq .k3 (q := bx client_Client.bd client_Client.fp nilp none) (fun _ h_ => bx_nilp h_) <| .conseq .k4 (q := bx client_Client.bd client_Client.fp nilp none) (fun _ h_ => bx_nilp h_) <| .conseq .k6 (q := bx router_Router.bd router_Router.fp nilp none) (fun _ h_ => bx_nilp h_) <| .conseq .k7 (q := bx relay_Relay.bd relay_Relay.fp nilp none) (fun _ h_ => bx_nilp h_) <| .drop .k0 <| .nil <| .inn ?_
          cases hj28
          exact .stj ⟨u34, u38⟩ (.cons Mm.m0 (.cons Mm.m1 (.cons Mm.m2 (.cons Mm.m3 .nil)))) (.of (.cons .k4 (.cons .k14 (.cons .k12 (.cons .k4 (.cons .k4 (.cons .k4 (.cons .k4 (.cons .k4 (.cons .k4 (.cons .k4 .nil))))))))))) .nil
        · rw [if_neg (ne_true_of_eq_false c37)] at hj28
          refine .skip <| .inn ?_
          cases hj28
          exact .stj ⟨u34, nilp⟩ (.cons Mm.m0 (.cons Mm.m3 (.cons Mm.m4 (.cons Mm.m5 .nil)))) (.of (.cons .k0 (.cons .k13 (.cons .k11 (.cons .k0 (.cons .k0 (.cons .k2 (.cons .k4 (.cons .k4 (.cons .k4 (.cons .k4 .nil))))))))))) .nil
      · clear hj28
        refine .reg rfl <| .opp (P.bin (v := N 1) .g1 .k (.addc (by decide))) rfl <| .drop .k2 <| .opp (P.mov .t0) rfl <| .nil <| .then <| .rd <| .seq <| .reg rfl <| .opp (P.bin (v := Bo true) .g0 .k (BinV.lss.boolc (by decide))) rfl <| .nil <| .then ?_
        refine .seq <| .condT .t0 <| .skip <| .then ?_
        obtain ⟨y42, hj44, h⟩ := bnd_eq h
        refine .cutx (γ := Value × Value) (E1 := fun z43 => [(5, z43.1), (63, N 1), (4, pt b17 0), (1, pt b1 0)]) (L1 := fun z43 => [blk b17 58 (world_World.cs ⟨y42.1, y42.2.1, ⟨none, none⟩, y42.2.2.1, none, (), y42.2.2.2.1, y42.2.2.2.2.1, y42.2.2.2.2.2.1, y42.2.2.2.2.2.2.1, y42.2.2.2.2.2.2.2.1, y42.2.2.2.2.2.2.2.2.1, y42.2.2.2.2.2.2.2.2.2.1, y42.2.2.2.2.2.2.2.2.2.2.1, y42.2.2.2.2.2.2.2.2.2.2.2.1, y42.2.2.2.2.2.2.2.2.2.2.2.2.1⟩ (pt b18 0) (pt b22 0) nilp nilp z27.2 z43.2 nilp (.map (some b13)) (.map (some b14)) (.map (some b15)) (.map (some b16))), blk b1 23 (world_Setup.cs a0), lst 9 1 z43.1 (y42.2.2.2.2.2.2.2.2.2.2.2.2.2.map (fun x => [.string x])), bx chain_Chain.bd chain_Chain.fp (pt b18 0) y42.2.1.a0, bx chain_Chain.bd chain_Chain.fp (pt b22 0) y42.2.1.a1, bx router_Router.bd router_Router.fp z27.2 y42.2.2.1.a0, bx router_Router.bd router_Router.fp z43.2 y42.2.2.1.a1, mb (fun (x : world_place) => Ag x.cs) (fun (x : Int) => N x) (.map (some b13)) y42.2.2.2.2.2.2.1, mb (fun (x : world_word) => Ag x.cs) (fun (x : Bool) => Bo x) (.map (some b14)) y42.2.2.2.2.2.2.2.1, mb (fun (x : ByteArray) => Value.string x) (fun (x : api_Inv) => Ag x.cs) (.map (some b15)) y42.2.2.2.2.2.2.2.2.1, mb (fun (x : ByteArray) => Value.string x) (fun (x : world_data) => Ag x.cs) (.map (some b16)) y42.2.2.2.2.2.2.2.2.2.1]) (R1 := fun z43 => []) ?_ (fun z43 => ?_)
        · clear h
          refine .block <| .seq <| .reg rfl <| .opp (P.mov .g0) rfl <| .opp (P.asg .t0) rfl <| .nil <| .then <| .seq <| .reg rfl <| .opp (P.mov .g0) rfl <| .opp (P.bin (v := N 3) .k .t0 (.addc (by decide))) rfl <| .opp (P.asg .t0) rfl ?_
          refine .nil <| .then <| .seq <| .reg rfl <| .opp (P.mov .g3) rfl <| .opp (P.mov .g1) rfl ?_
          obtain ⟨r45, hr46, hj44⟩ := bnd_eq hj44
          refine .opg (G.call call16 (.cons .t0 .nil) (S_bid_Seed 3 r45 hr46) .nil .nil (fun _ _ => rfl) (fun _ _ => rfl) rfl) rfl fun _ _ => ?_
          obtain ⟨r47, hr48, hj44⟩ := bnd_eq hj44
          refine .opg (G.call call15 (.cons .t0 .nil) (S_mss_Root r45 r47 hr48) .nil .nil (fun _ _ => rfl) (fun _ _ => rfl) rfl) rfl fun _ _ => .opg (G.bsl (cs := [.string r47]) .t0 runUnderlying60 sizeOf9 zeroValue9 rfl rfl rfl rfl rfl) rfl fun u49 _ => ?_
          obtain ⟨hb51, hj44⟩ := grd_eq hj44
          refine .opg (G.app (by_ := 16) .t1 .t0 .k3 (.inr (.inr ⟨_, Mm.m0⟩)) runUnderlying60 runUnderlying60 sizeOf9 typeInfo9 rfl rfl zeroValue9 rfl rfl (by simpa using hb51) rfl) rfl fun u50 _ => .conseq .k0 (q := lst 9 1 u50 ((y26.2.2.2.2.2.2.2.2.2.2.2.2.2 ++ ([r47] : List ByteArray)).map (fun x => [.string x]))) (fun _ hh => by simpa [List.map_append] using hh) <| .drop .k4 <| .opp (P.asg .t0) rfl <| .nil <| .then <| .seq <| .reg rfl <| .opp (P.mov .g4) rfl <| .opp (P.mov .g2) rfl <| .bxn client_Client.bd client_Client.fp <| .bxn client_Client.bd client_Client.fp ?_
          refine .bxn router_Router.bd router_Router.fp <| .bxn relay_Relay.bd relay_Relay.fp ?_
          obtain ⟨r52, hr53, hj44⟩ := bnd_eq hj44
          refine .opg (G.call call17 (.cons .t1 (.cons .t0 .nil)) (S_world_World_corrupt b17 (⟨y26.1, y26.2.1, ⟨none, none⟩, ⟨y26.2.2.1, none⟩, none, (), y26.2.2.2.1, y26.2.2.2.2.1, y26.2.2.2.2.2.1, y26.2.2.2.2.2.2.1, y26.2.2.2.2.2.2.2.1, y26.2.2.2.2.2.2.2.2.1, y26.2.2.2.2.2.2.2.2.2.1, y26.2.2.2.2.2.2.2.2.2.2.1, y26.2.2.2.2.2.2.2.2.2.2.2.1, y26.2.2.2.2.2.2.2.2.2.2.2.2.1⟩ : world_World) (pt b18 0) (pt b22 0) nilp nilp z27.2 nilp nilp (.map (some b13)) (.map (some b14)) (.map (some b15)) (.map (some b16)) 3 r52 hr53) (.cons .k6 (.cons .k7 (.cons .k7 (.cons .k2 (.cons .k2 (.cons .k5 (.cons .k1 (.cons .k0 (.cons .k3 (.cons .k3 (.cons .k3 (.cons .k3 .nil)))))))))))) .nil (fun _ _ => rfl) (fun _ _ => rfl) rfl) rfl fun _ _ => .opp (P.not .t0) rfl <| .nil <| .then <| .cond .t0 (fun c54 => ?_) (fun c54 => ?_)
          · rw [if_pos c54] at hj44
            refine .seq <| .drawl [bx chain_Chain.bd chain_Chain.fp (pt b18 0) y26.2.1.a0, bx chain_Chain.bd chain_Chain.fp (pt b22 0) y26.2.1.a1, bx client_Client.bd client_Client.fp nilp none, bx client_Client.bd client_Client.fp nilp none, bx router_Router.bd router_Router.fp z27.2 y26.2.2.1, bx router_Router.bd router_Router.fp nilp none, bx relay_Relay.bd relay_Relay.fp nilp none, mb (fun (x : world_place) => Ag x.cs) (fun (x : Int) => N x) (.map (some b13)) y26.2.2.2.2.2.2.1, mb (fun (x : world_word) => Ag x.cs) (fun (x : Bool) => Bo x) (.map (some b14)) y26.2.2.2.2.2.2.2.1, mb (fun (x : ByteArray) => Value.string x) (fun (x : api_Inv) => Ag x.cs) (.map (some b15)) y26.2.2.2.2.2.2.2.2.1, mb (fun (x : ByteArray) => Value.string x) (fun (x : world_data) => Ag x.cs) (.map (some b16)) y26.2.2.2.2.2.2.2.2.2.1, lst 9 1 u50 ((y26.2.2.2.2.2.2.2.2.2.2.2.2.2 ++ ([r47] : List ByteArray)).map (fun x => [.string x])), lst 9 1 u49 [[.string r47]], blk b1 23 (world_Setup.cs a0)] [] (Ls.of (.cons .k1 (.cons .k1 (.cons .k1 (.cons .k1 (.cons .k1 (.cons .k1 (.cons .k1 (.cons .k1 (.cons .k1 (.cons .k1 (.cons .k1 (.cons .k1 (.cons .k1 (.cons .k1 .nil))))))))))))))) Rs.nil 15 (.on 0 .pu (.on 1 .pu (.on 2 .pu (.on 3 .pu (.on 5 .pu (.on 11 .pu (.on 12 .pu (.on 4 .ld (.on 6 .ld (.on 7 .go (.on 8 .pu (.on 9 .pu (.on 10 .pu (.on 13 .pu (.on 14 .go .nl))))))))))))))) follows_mixed (.thn (.inb (.thn (.thn (.inb (.thn .body)))))) (by kernel_rfl) <| .dpu rfl (.n rfl) (P.mov .g4) rfl rfl <| .dpu rfl (.n rfl) (P.mov .t3) rfl rfl <| .dpu rfl (.n rfl) (P.mov .g3) rfl rfl <| .dpu rfl (.n rfl) (P.fa .g7 fa_23_0 rfl) rfl rfl <| .dpu rfl (.n rfl) (P.fa .g8 fa_23_3 rfl) rfl rfl <| .dpu rfl (.n rfl) (P.nilc .t4) rfl rfl <| .dpu rfl (.n rfl) (P.fa .t0 fa_58_3 rfl) rfl rfl <| .dld rfl (.n rfl) (V.ld (v := N a0.Delay) .t2 .k13 (.one isAgg3 rfl)) (fun _ h => (h.imp (Ls.of (.cons .k1 (.cons .k1 (.cons .k1 (.cons .k1 (.cons .k1 (.cons .k1 (.cons .k1 (.cons .k1 (.cons .k1 (.cons .k1 (.cons .k1 (.cons .k1 (.cons .k1 (.cons .k1 .nil)))))))))))))))).ro Rs.nil) rfl rfl <| .dld rfl (.n rfl) (V.ld (v := N a0.Room) .t2 .k13 (.one isAgg3 rfl)) (fun _ h => (h.imp (Ls.of (.cons .k1 (.cons .k1 (.cons .k1 (.cons .k1 (.cons .k1 (.cons .k1 (.cons .k1 (.cons .k1 (.cons .k1 (.cons .k1 (.cons .k1 (.cons .k1 (.cons .k1 (.cons .k1 .nil)))))))))))))))).ro Rs.nil) rfl rfl <| .dgo rfl (.n rfl) (G.call call18 (.cons .t3 (.cons .t1 (.cons .t0 .nil))) (S_router_New 3 a0.Delay a0.Room _ rfl) .nil .nil (fun _ _ => rfl) (fun _ _ => rfl) rfl) (.inr fun _ _ _ h => (h.imp (Ls.of (.cons .k2 (.cons .k2 (.cons .k2 (.cons .k2 (.cons .k2 (.cons .k2 (.cons .k2 (.cons .k2 (.cons .k2 (.cons .k2 (.cons .k2 (.cons .k2 (.cons .k2 (.cons .k2 .nil)))))))))))))))).ro Rs.nil) fun u55 _ => ?_
            refine .dpu rfl (.n rfl) (P.mov .t0) rfl rfl <| .dpu rfl (.n rfl) (P.ext (v := u55) .g0 rfl) rfl rfl <| .dpu0 rfl (.n rfl) (P.ext (v := N (router_New 3 a0.Delay a0.Room).2) .t1 rfl) rfl rfl <| .dpu rfl (.n rfl) (P.iac (i := 1) .t2 rfl .t1 runUnderlying52 sizeOf51 rfl rfl) rfl rfl <| .bx1 .k0 fun ho56 => .dgo rfl (.n rfl) (G.str .t1 .t0 .k1 (.mk1 (cs' := (world_World.cs ⟨y26.1, y26.2.1, ⟨none, none⟩, ⟨y26.2.2.1, none⟩, none, (), y26.2.2.2.1, y26.2.2.2.2.1, y26.2.2.2.2.2.1, y26.2.2.2.2.2.2.1, y26.2.2.2.2.2.2.2.1, y26.2.2.2.2.2.2.2.2.1, y26.2.2.2.2.2.2.2.2.2.1, y26.2.2.2.2.2.2.2.2.2.2.1, y26.2.2.2.2.2.2.2.2.2.2.2.1, y26.2.2.2.2.2.2.2.2.2.2.2.2.1⟩ (pt b18 0) (pt b22 0) nilp nilp z27.2 u55 nilp (.map (some b13)) (.map (some b14)) (.map (some b15)) (.map (some b16)))) sizeOf51 rfl ho56 rfl rfl)) (.inr fun _ _ _ h => (h.imp (Ls.of (.cons .k2 (.cons .k2 (.cons .k2 (.cons .k2 (.cons .k2 (.cons .k2 (.cons .k2 (.cons .k2 (.cons .k2 (.cons .k2 (.cons .k2 (.cons .k2 (.cons .k2 (.cons .k2 .nil)))))))))))))))).ro Rs.nil) fun _ _ => .dnil <| .then <| .reg rfl <| .opp (P.mov .g3) rfl <| .opp (P.mov .t2) rfl ?_
            obtain ⟨r57, hr58, hj44⟩ := bnd_eq hj44
            refine .opg (G.call call19 (.cons .t1 (.cons .t0 .nil)) (S_world_World_fill b17 (⟨y26.1, y26.2.1, ⟨none, none⟩, ⟨y26.2.2.1, (router_New 3 a0.Delay a0.Room).1⟩, none, (), y26.2.2.2.1, y26.2.2.2.2.1, y26.2.2.2.2.2.1, y26.2.2.2.2.2.2.1, y26.2.2.2.2.2.2.2.1, y26.2.2.2.2.2.2.2.2.1, y26.2.2.2.2.2.2.2.2.2.1, y26.2.2.2.2.2.2.2.2.2.2.1, y26.2.2.2.2.2.2.2.2.2.2.2.1, y26.2.2.2.2.2.2.2.2.2.2.2.2.1⟩ : world_World) (pt b18 0) (pt b22 0) nilp nilp z27.2 u55 nilp (.map (some b13)) (.map (some b14)) (.map (some b15)) (.map (some b16)) 3 r57 hr58) (.cons .k0 (.cons .k1 (.cons .k1 (.cons .k1 (.cons .k1 (.cons .k1 (.cons .k0 (.cons .k1 (.cons .k1 (.cons .k1 (.cons .k1 (.cons .k1 .nil)))))))))))) .nil (fun _ _ => rfl) (fun _ _ => rfl) rfl) rfl fun _ _ => .conseq .k3 (q := bx client_Client.bd client_Client.fp nilp none) (fun _ h_ => bx_nilp h_) <| .conseq .k4 (q := bx client_Client.bd client_Client.fp nilp none) (fun _ h_ => bx_nilp h_) <| .conseq .k7 (q := bx relay_Relay.bd relay_Relay.fp nilp none) (fun _ h_ => bx_nilp h_) <| .drop .k0 <| .nil <| .inn ?_
            cases hj44
            exact .stj ⟨u50, u55⟩ (.cons Mm.m0 (.cons Mm.m1 (.cons Mm.m2 (.cons Mm.m3 .nil)))) (.of (.cons .k3 (.cons .k14 (.cons .k12 (.cons .k3 (.cons .k3 (.cons .k3 (.cons .k3 (.cons .k3 (.cons .k3 (.cons .k3 (.cons .k3 .nil)))))))))))) .nil
          · rw [if_neg (ne_true_of_eq_false c54)] at hj44
            refine .skip <| .inn ?_
            cases hj44
            exact .stj ⟨u50, nilp⟩ (.cons Mm.m0 (.cons Mm.m3 (.cons Mm.m4 (.cons Mm.m5 .nil)))) (.of (.cons .k0 (.cons .k13 (.cons .k11 (.cons .k0 (.cons .k0 (.cons .k2 (.cons .k2 (.cons .k3 (.cons .k3 (.cons .k3 (.cons .k3 .nil)))))))))))) .nil
        · clear hj44
          refine .reg rfl <| .opp (P.bin (v := N 2) .g1 .k (.addc (by decide))) rfl <| .drop .k2 <| .opp (P.mov .t0) rfl <| .nil <| .then <| .rd <| .seq <| .reg rfl <| .opp (P.bin (v := Bo false) .g0 .k (BinV.lss.boolc (by decide))) rfl <| .nil <| .then ?_
          refine .seq <| .condF .t0 <| .exit <| .thx <| .thx <| .inb <| .then <| .seq <| .seq <| .reg rfl <| .opp (P.mov .k) rfl <| .nil ?_
          refine .then <| .block <| .rounds 3 <| .rd <| .seq <| .reg rfl <| .opp (P.bin (v := Bo true) .g0 .k (BinV.lss.boolc (by decide))) rfl <| .nil <| .then <| .seq <| .condT .t0 <| .skip ?_
          refine .then ?_
          obtain ⟨y59, hj61, h⟩ := bnd_eq h
          refine .cutx (γ := Value) (E1 := fun z60 => [(96, N 0), (5, z43.1), (4, pt b17 0), (1, pt b1 0)]) (L1 := fun z60 => [blk b17 58 (world_World.cs ⟨y42.1, y42.2.1, ⟨y59, none⟩, y42.2.2.1, none, (), y42.2.2.2.1, y42.2.2.2.2.1, y42.2.2.2.2.2.1, y42.2.2.2.2.2.2.1, y42.2.2.2.2.2.2.2.1, y42.2.2.2.2.2.2.2.2.1, y42.2.2.2.2.2.2.2.2.2.1, y42.2.2.2.2.2.2.2.2.2.2.1, y42.2.2.2.2.2.2.2.2.2.2.2.1, y42.2.2.2.2.2.2.2.2.2.2.2.2.1⟩ (pt b18 0) (pt b22 0) z60 nilp z27.2 z43.2 nilp (.map (some b13)) (.map (some b14)) (.map (some b15)) (.map (some b16))), blk b1 23 (world_Setup.cs a0), lst 9 1 z43.1 (y42.2.2.2.2.2.2.2.2.2.2.2.2.2.map (fun x => [.string x])), bx chain_Chain.bd chain_Chain.fp (pt b18 0) y42.2.1.a0, bx chain_Chain.bd chain_Chain.fp (pt b22 0) y42.2.1.a1, bx client_Client.bd client_Client.fp z60 y59, bx router_Router.bd router_Router.fp z27.2 y42.2.2.1.a0, bx router_Router.bd router_Router.fp z43.2 y42.2.2.1.a1, mb (fun (x : world_place) => Ag x.cs) (fun (x : Int) => N x) (.map (some b13)) y42.2.2.2.2.2.2.1, mb (fun (x : world_word) => Ag x.cs) (fun (x : Bool) => Bo x) (.map (some b14)) y42.2.2.2.2.2.2.2.1, mb (fun (x : ByteArray) => Value.string x) (fun (x : api_Inv) => Ag x.cs) (.map (some b15)) y42.2.2.2.2.2.2.2.2.1, mb (fun (x : ByteArray) => Value.string x) (fun (x : world_data) => Ag x.cs) (.map (some b16)) y42.2.2.2.2.2.2.2.2.2.1]) (R1 := fun z60 => []) ?_ (fun z60 => ?_)
          · clear h
            refine .block <| .seq <| .reg rfl <| .opp (P.mov .g0) rfl <| .opp (P.asg .t0) rfl <| .nil <| .then <| .seq <| .reg rfl <| .opp (P.mov .g4) rfl <| .opp (P.mov .g1) rfl <| .bxn client_Client.bd client_Client.fp ?_
            refine .bxn client_Client.bd client_Client.fp <| .bxn relay_Relay.bd relay_Relay.fp ?_
            obtain ⟨r62, hr63, hj61⟩ := bnd_eq hj61
            refine .opg (G.call call17 (.cons .t1 (.cons .t0 .nil)) (S_world_World_corrupt b17 (⟨y42.1, y42.2.1, ⟨none, none⟩, y42.2.2.1, none, (), y42.2.2.2.1, y42.2.2.2.2.1, y42.2.2.2.2.2.1, y42.2.2.2.2.2.2.1, y42.2.2.2.2.2.2.2.1, y42.2.2.2.2.2.2.2.2.1, y42.2.2.2.2.2.2.2.2.2.1, y42.2.2.2.2.2.2.2.2.2.2.1, y42.2.2.2.2.2.2.2.2.2.2.2.1, y42.2.2.2.2.2.2.2.2.2.2.2.2.1⟩ : world_World) (pt b18 0) (pt b22 0) nilp nilp z27.2 z43.2 nilp (.map (some b13)) (.map (some b14)) (.map (some b15)) (.map (some b16)) 0 r62 hr63) (.cons .k3 (.cons .k5 (.cons .k5 (.cons .k1 (.cons .k1 (.cons .k3 (.cons .k3 (.cons .k0 (.cons .k2 (.cons .k2 (.cons .k2 (.cons .k2 .nil)))))))))))) .nil (fun _ _ => rfl) (fun _ _ => rfl) rfl) rfl fun _ _ => .opp (P.not .t0) rfl <| .nil <| .then <| .cond .t0 (fun c64 => ?_) (fun c64 => ?_)
            · rw [if_pos c64] at hj61
              refine .drawl [bx chain_Chain.bd chain_Chain.fp (pt b18 0) y42.2.1.a0, bx chain_Chain.bd chain_Chain.fp (pt b22 0) y42.2.1.a1, bx client_Client.bd client_Client.fp nilp none, bx client_Client.bd client_Client.fp nilp none, bx router_Router.bd router_Router.fp z27.2 y42.2.2.1.a0, bx router_Router.bd router_Router.fp z43.2 y42.2.2.1.a1, bx relay_Relay.bd relay_Relay.fp nilp none, mb (fun (x : world_place) => Ag x.cs) (fun (x : Int) => N x) (.map (some b13)) y42.2.2.2.2.2.2.1, mb (fun (x : world_word) => Ag x.cs) (fun (x : Bool) => Bo x) (.map (some b14)) y42.2.2.2.2.2.2.2.1, mb (fun (x : ByteArray) => Value.string x) (fun (x : api_Inv) => Ag x.cs) (.map (some b15)) y42.2.2.2.2.2.2.2.2.1, mb (fun (x : ByteArray) => Value.string x) (fun (x : world_data) => Ag x.cs) (.map (some b16)) y42.2.2.2.2.2.2.2.2.2.1, blk b1 23 (world_Setup.cs a0), lst 9 1 z43.1 (y42.2.2.2.2.2.2.2.2.2.2.2.2.2.map (fun x => [.string x]))] [] (Ls.of (.cons .k1 (.cons .k1 (.cons .k1 (.cons .k1 (.cons .k1 (.cons .k1 (.cons .k1 (.cons .k1 (.cons .k1 (.cons .k1 (.cons .k1 (.cons .k1 (.cons .k1 .nil)))))))))))))) Rs.nil 16 (.on 0 .pu (.on 1 .pu (.on 2 .pu (.on 3 .pu (.on 4 .pu (.on 6 .pu (.on 12 .pu (.on 13 .pu (.on 5 .ld (.on 7 .ld (.on 8 .go (.on 9 .pu (.on 10 .pu (.on 11 .pu (.on 14 .pu (.on 15 .go .nl)))))))))))))))) follows_mixed (.inb (.thn (.thn (.inb (.thn .body))))) (by kernel_rfl) <| .dpu rfl (.n rfl) (P.mov .g4) rfl rfl <| .dpu rfl (.n rfl) (P.mov .g1) rfl rfl <| .dpu rfl (.n rfl) (P.mov .t2) rfl rfl <| .dpu rfl (.n rfl) (P.mov .g5) rfl rfl <| .dpu rfl (.n rfl) (P.fa .g8 fa_23_0 rfl) rfl rfl <| .dpu rfl (.n rfl) (P.fa .g9 fa_23_3 rfl) rfl rfl <| .dpu rfl (.n rfl) (P.nilc .t5) rfl rfl <| .dpu rfl (.n rfl) (P.fa .t0 fa_58_2 rfl) rfl rfl <| .dld rfl (.n rfl) (V.ld (v := N a0.Delay) .t2 .k11 (.one isAgg3 rfl)) (fun _ h => (h.imp (Ls.of (.cons .k1 (.cons .k1 (.cons .k1 (.cons .k1 (.cons .k1 (.cons .k1 (.cons .k1 (.cons .k1 (.cons .k1 (.cons .k1 (.cons .k1 (.cons .k1 (.cons .k1 .nil))))))))))))))).ro Rs.nil) rfl rfl <| .dld rfl (.n rfl) (V.ld (v := N a0.Room) .t2 .k11 (.one isAgg3 rfl)) (fun _ h => (h.imp (Ls.of (.cons .k1 (.cons .k1 (.cons .k1 (.cons .k1 (.cons .k1 (.cons .k1 (.cons .k1 (.cons .k1 (.cons .k1 (.cons .k1 (.cons .k1 (.cons .k1 (.cons .k1 .nil))))))))))))))).ro Rs.nil) rfl rfl ?_
              obtain ⟨r65, hr66, hj61⟩ := bnd_eq hj61
              refine .dgo rfl (.n rfl) (G.calll call20 (.cons .t4 (.cons .t3 (.cons .t1 (.cons .t0 .nil)))) (S_client_New 0 z43.1 y42.2.2.2.2.2.2.2.2.2.2.2.2.2 a0.Delay a0.Room r65 hr66) .nil (.imp (List.mem_append_right _ Mm.m13) (fun _ => lst_rows) .nil) (fun _ _ => rfl) rfl) (.inr fun _ _ _ h => (h.imp (Ls.of (.cons .k2 (.cons .k2 (.cons .k2 (.cons .k2 (.cons .k2 (.cons .k2 (.cons .k2 (.cons .k2 (.cons .k2 (.cons .k2 (.cons .k2 (.cons .k2 (.cons .k2 .nil))))))))))))))).ro Rs.nil) fun u67 _ => .dpu rfl (.n rfl) (P.mov .t0) rfl rfl <| .dpu rfl (.n rfl) (P.ext (v := u67) .g0 rfl) rfl rfl <| .dpu0 rfl (.n rfl) (P.ext (v := N r65.2) .t1 rfl) rfl rfl <| .dpu rfl (.n rfl) (P.iac (i := 0) .t2 rfl .t1 runUnderlying50 sizeOf49 rfl rfl) rfl rfl <| .bx1 .k0 fun ho68 => .dgo rfl (.n rfl) (G.str .t1 .t0 .k1 (.mk1 (cs' := (world_World.cs ⟨y42.1, y42.2.1, ⟨none, none⟩, y42.2.2.1, none, (), y42.2.2.2.1, y42.2.2.2.2.1, y42.2.2.2.2.2.1, y42.2.2.2.2.2.2.1, y42.2.2.2.2.2.2.2.1, y42.2.2.2.2.2.2.2.2.1, y42.2.2.2.2.2.2.2.2.2.1, y42.2.2.2.2.2.2.2.2.2.2.1, y42.2.2.2.2.2.2.2.2.2.2.2.1, y42.2.2.2.2.2.2.2.2.2.2.2.2.1⟩ (pt b18 0) (pt b22 0) u67 nilp z27.2 z43.2 nilp (.map (some b13)) (.map (some b14)) (.map (some b15)) (.map (some b16)))) sizeOf49 rfl ho68 rfl rfl)) (.inr fun _ _ _ h => (h.imp (Ls.of (.cons .k2 (.cons .k2 (.cons .k2 (.cons .k2 (.cons .k2 (.cons .k2 (.cons .k2 (.cons .k2 (.cons .k2 (.cons .k2 (.cons .k2 (.cons .k2 (.cons .k2 .nil))))))))))))))).ro Rs.nil) fun _ _ => .dnil <| .inn ?_
              cases hj61
              exact .stj u67 (.cons Mm.m0 (.cons Mm.m2 (.cons Mm.m3 (.cons Mm.m4 .nil)))) (.of (.cons .k0 (.cons .k12 (.cons .k12 (.cons .k1 (.cons .k1 (.cons .k0 (.cons .k2 (.cons .k2 (.cons .k3 (.cons .k3 (.cons .k3 (.cons .k3 .nil))))))))))))) .nil
            · rw [if_neg (ne_true_of_eq_false c64)] at hj61
              refine .skip <| .inn ?_
              cases hj61
              exact .stj nilp (.cons Mm.m1 (.cons Mm.m3 (.cons Mm.m4 (.cons Mm.m5 .nil)))) (.of (.cons .k0 (.cons .k11 (.cons .k11 (.cons .k0 (.cons .k0 (.cons .k0 (.cons .k1 (.cons .k1 (.cons .k2 (.cons .k2 (.cons .k2 (.cons .k2 .nil))))))))))))) .nil
          · clear hj61
            refine .reg rfl <| .opp (P.bin (v := N 1) .g0 .k (.addc (by decide))) rfl <| .drop .k1 <| .opp (P.mov .t0) rfl <| .nil <| .then <| .rd <| .seq <| .reg rfl <| .opp (P.bin (v := Bo true) .g0 .k (BinV.lss.boolc (by decide))) rfl <| .nil <| .then ?_
            refine .seq <| .condT .t0 <| .skip <| .then ?_
            obtain ⟨y69, hj71, h⟩ := bnd_eq h
            refine .cutx (γ := Value) (E1 := fun z70 => [(96, N 1), (5, z43.1), (4, pt b17 0), (1, pt b1 0)]) (L1 := fun z70 => [blk b17 58 (world_World.cs ⟨y42.1, y42.2.1, ⟨y59, y69⟩, y42.2.2.1, none, (), y42.2.2.2.1, y42.2.2.2.2.1, y42.2.2.2.2.2.1, y42.2.2.2.2.2.2.1, y42.2.2.2.2.2.2.2.1, y42.2.2.2.2.2.2.2.2.1, y42.2.2.2.2.2.2.2.2.2.1, y42.2.2.2.2.2.2.2.2.2.2.1, y42.2.2.2.2.2.2.2.2.2.2.2.1, y42.2.2.2.2.2.2.2.2.2.2.2.2.1⟩ (pt b18 0) (pt b22 0) z60 z70 z27.2 z43.2 nilp (.map (some b13)) (.map (some b14)) (.map (some b15)) (.map (some b16))), blk b1 23 (world_Setup.cs a0), lst 9 1 z43.1 (y42.2.2.2.2.2.2.2.2.2.2.2.2.2.map (fun x => [.string x])), bx chain_Chain.bd chain_Chain.fp (pt b18 0) y42.2.1.a0, bx chain_Chain.bd chain_Chain.fp (pt b22 0) y42.2.1.a1, bx client_Client.bd client_Client.fp z60 y59, bx client_Client.bd client_Client.fp z70 y69, bx router_Router.bd router_Router.fp z27.2 y42.2.2.1.a0, bx router_Router.bd router_Router.fp z43.2 y42.2.2.1.a1, mb (fun (x : world_place) => Ag x.cs) (fun (x : Int) => N x) (.map (some b13)) y42.2.2.2.2.2.2.1, mb (fun (x : world_word) => Ag x.cs) (fun (x : Bool) => Bo x) (.map (some b14)) y42.2.2.2.2.2.2.2.1, mb (fun (x : ByteArray) => Value.string x) (fun (x : api_Inv) => Ag x.cs) (.map (some b15)) y42.2.2.2.2.2.2.2.2.1, mb (fun (x : ByteArray) => Value.string x) (fun (x : world_data) => Ag x.cs) (.map (some b16)) y42.2.2.2.2.2.2.2.2.2.1]) (R1 := fun z70 => []) ?_ (fun z70 => ?_)
            · clear h
              refine .block <| .seq <| .reg rfl <| .opp (P.mov .g0) rfl <| .opp (P.asg .t0) rfl <| .nil <| .then <| .seq <| .reg rfl <| .opp (P.mov .g3) rfl <| .opp (P.mov .g1) rfl <| .bxn client_Client.bd client_Client.fp ?_
              refine .bxn relay_Relay.bd relay_Relay.fp ?_
              obtain ⟨r72, hr73, hj71⟩ := bnd_eq hj71
              refine .opg (G.call call17 (.cons .t1 (.cons .t0 .nil)) (S_world_World_corrupt b17 (⟨y42.1, y42.2.1, ⟨y59, none⟩, y42.2.2.1, none, (), y42.2.2.2.1, y42.2.2.2.2.1, y42.2.2.2.2.2.1, y42.2.2.2.2.2.2.1, y42.2.2.2.2.2.2.2.1, y42.2.2.2.2.2.2.2.2.1, y42.2.2.2.2.2.2.2.2.2.1, y42.2.2.2.2.2.2.2.2.2.2.1, y42.2.2.2.2.2.2.2.2.2.2.2.1, y42.2.2.2.2.2.2.2.2.2.2.2.2.1⟩ : world_World) (pt b18 0) (pt b22 0) z60 nilp z27.2 z43.2 nilp (.map (some b13)) (.map (some b14)) (.map (some b15)) (.map (some b16)) 1 r72 hr73) (.cons .k2 (.cons .k4 (.cons .k4 (.cons .k4 (.cons .k1 (.cons .k3 (.cons .k3 (.cons .k0 (.cons .k2 (.cons .k2 (.cons .k2 (.cons .k2 .nil)))))))))))) .nil (fun _ _ => rfl) (fun _ _ => rfl) rfl) rfl fun _ _ => .opp (P.not .t0) rfl <| .nil <| .then <| .cond .t0 (fun c74 => ?_) (fun c74 => ?_)
              · rw [if_pos c74] at hj71
                refine .drawl [bx chain_Chain.bd chain_Chain.fp (pt b18 0) y42.2.1.a0, bx chain_Chain.bd chain_Chain.fp (pt b22 0) y42.2.1.a1, bx client_Client.bd client_Client.fp z60 y59, bx client_Client.bd client_Client.fp nilp none, bx router_Router.bd router_Router.fp z27.2 y42.2.2.1.a0, bx router_Router.bd router_Router.fp z43.2 y42.2.2.1.a1, bx relay_Relay.bd relay_Relay.fp nilp none, mb (fun (x : world_place) => Ag x.cs) (fun (x : Int) => N x) (.map (some b13)) y42.2.2.2.2.2.2.1, mb (fun (x : world_word) => Ag x.cs) (fun (x : Bool) => Bo x) (.map (some b14)) y42.2.2.2.2.2.2.2.1, mb (fun (x : ByteArray) => Value.string x) (fun (x : api_Inv) => Ag x.cs) (.map (some b15)) y42.2.2.2.2.2.2.2.2.1, mb (fun (x : ByteArray) => Value.string x) (fun (x : world_data) => Ag x.cs) (.map (some b16)) y42.2.2.2.2.2.2.2.2.2.1, blk b1 23 (world_Setup.cs a0), lst 9 1 z43.1 (y42.2.2.2.2.2.2.2.2.2.2.2.2.2.map (fun x => [.string x]))] [] (Ls.of (.cons .k1 (.cons .k1 (.cons .k1 (.cons .k1 (.cons .k1 (.cons .k1 (.cons .k1 (.cons .k1 (.cons .k1 (.cons .k1 (.cons .k1 (.cons .k1 (.cons .k1 .nil)))))))))))))) Rs.nil 16 (.on 0 .pu (.on 1 .pu (.on 2 .pu (.on 3 .pu (.on 4 .pu (.on 6 .pu (.on 12 .pu (.on 13 .pu (.on 5 .ld (.on 7 .ld (.on 8 .go (.on 9 .pu (.on 10 .pu (.on 11 .pu (.on 14 .pu (.on 15 .go .nl)))))))))))))))) follows_mixed (.inb (.thn (.thn (.inb (.thn .body))))) (by kernel_rfl) <| .dpu rfl (.n rfl) (P.mov .g3) rfl rfl <| .dpu rfl (.n rfl) (P.mov .g1) rfl rfl <| .dpu rfl (.n rfl) (P.mov .t2) rfl rfl <| .dpu rfl (.n rfl) (P.mov .g4) rfl rfl <| .dpu rfl (.n rfl) (P.fa .g7 fa_23_0 rfl) rfl rfl <| .dpu rfl (.n rfl) (P.fa .g8 fa_23_3 rfl) rfl rfl <| .dpu rfl (.n rfl) (P.nilc .t5) rfl rfl <| .dpu rfl (.n rfl) (P.fa .t0 fa_58_2 rfl) rfl rfl <| .dld rfl (.n rfl) (V.ld (v := N a0.Delay) .t2 .k11 (.one isAgg3 rfl)) (fun _ h => (h.imp (Ls.of (.cons .k1 (.cons .k1 (.cons .k1 (.cons .k1 (.cons .k1 (.cons .k1 (.cons .k1 (.cons .k1 (.cons .k1 (.cons .k1 (.cons .k1 (.cons .k1 (.cons .k1 .nil))))))))))))))).ro Rs.nil) rfl rfl <| .dld rfl (.n rfl) (V.ld (v := N a0.Room) .t2 .k11 (.one isAgg3 rfl)) (fun _ h => (h.imp (Ls.of (.cons .k1 (.cons .k1 (.cons .k1 (.cons .k1 (.cons .k1 (.cons .k1 (.cons .k1 (.cons .k1 (.cons .k1 (.cons .k1 (.cons .k1 (.cons .k1 (.cons .k1 .nil))))))))))))))).ro Rs.nil) rfl rfl ?_
                obtain ⟨r75, hr76, hj71⟩ := bnd_eq hj71
                refine .dgo rfl (.n rfl) (G.calll call20 (.cons .t4 (.cons .t3 (.cons .t1 (.cons .t0 .nil)))) (S_client_New 1 z43.1 y42.2.2.2.2.2.2.2.2.2.2.2.2.2 a0.Delay a0.Room r75 hr76) .nil (.imp (List.mem_append_right _ Mm.m13) (fun _ => lst_rows) .nil) (fun _ _ => rfl) rfl) (.inr fun _ _ _ h => (h.imp (Ls.of (.cons .k2 (.cons .k2 (.cons .k2 (.cons .k2 (.cons .k2 (.cons .k2 (.cons .k2 (.cons .k2 (.cons .k2 (.cons .k2 (.cons .k2 (.cons .k2 (.cons .k2 .nil))))))))))))))).ro Rs.nil) fun u77 _ => .dpu rfl (.n rfl) (P.mov .t0) rfl rfl <| .dpu rfl (.n rfl) (P.ext (v := u77) .g0 rfl) rfl rfl <| .dpu0 rfl (.n rfl) (P.ext (v := N r75.2) .t1 rfl) rfl rfl <| .dpu rfl (.n rfl) (P.iac (i := 1) .t2 rfl .t1 runUnderlying50 sizeOf49 rfl rfl) rfl rfl <| .bx1 .k0 fun ho78 => .dgo rfl (.n rfl) (G.str .t1 .t0 .k1 (.mk1 (cs' := (world_World.cs ⟨y42.1, y42.2.1, ⟨y59, none⟩, y42.2.2.1, none, (), y42.2.2.2.1, y42.2.2.2.2.1, y42.2.2.2.2.2.1, y42.2.2.2.2.2.2.1, y42.2.2.2.2.2.2.2.1, y42.2.2.2.2.2.2.2.2.1, y42.2.2.2.2.2.2.2.2.2.1, y42.2.2.2.2.2.2.2.2.2.2.1, y42.2.2.2.2.2.2.2.2.2.2.2.1, y42.2.2.2.2.2.2.2.2.2.2.2.2.1⟩ (pt b18 0) (pt b22 0) z60 u77 z27.2 z43.2 nilp (.map (some b13)) (.map (some b14)) (.map (some b15)) (.map (some b16)))) sizeOf49 rfl ho78 rfl rfl)) (.inr fun _ _ _ h => (h.imp (Ls.of (.cons .k2 (.cons .k2 (.cons .k2 (.cons .k2 (.cons .k2 (.cons .k2 (.cons .k2 (.cons .k2 (.cons .k2 (.cons .k2 (.cons .k2 (.cons .k2 (.cons .k2 .nil))))))))))))))).ro Rs.nil) fun _ _ => .dnil <| .inn ?_
                cases hj71
                exact .stj u77 (.cons Mm.m0 (.cons Mm.m1 (.cons Mm.m2 (.cons Mm.m3 .nil)))) (.of (.cons .k0 (.cons .k12 (.cons .k12 (.cons .k1 (.cons .k1 (.cons .k1 (.cons .k0 (.cons .k1 (.cons .k1 (.cons .k2 (.cons .k2 (.cons .k2 (.cons .k2 .nil)))))))))))))) .nil
              · rw [if_neg (ne_true_of_eq_false c74)] at hj71
                refine .skip <| .inn ?_
                cases hj71
                exact .stj nilp (.cons Mm.m1 (.cons Mm.m2 (.cons Mm.m3 (.cons Mm.m4 .nil)))) (.of (.cons .k0 (.cons .k11 (.cons .k11 (.cons .k0 (.cons .k0 (.cons .k0 (.cons .k0 (.cons .k0 (.cons .k0 (.cons .k1 (.cons .k1 (.cons .k1 (.cons .k1 .nil)))))))))))))) .nil
            · clear hj71
              refine .reg rfl <| .opp (P.bin (v := N 2) .g0 .k (.addc (by decide))) rfl <| .drop .k1 <| .opp (P.mov .t0) rfl <| .nil <| .then <| .rd <| .seq <| .reg rfl <| .opp (P.bin (v := Bo false) .g0 .k (BinV.lss.boolc (by decide))) rfl <| .nil <| .then ?_
              refine .seq <| .condF .t0 <| .exit <| .thx <| .thx <| .inb <| .then ?_
              obtain ⟨y79, hj81, h⟩ := bnd_eq h
              refine .cutx (γ := Value) (E1 := fun z80 => [(4, pt b17 0)]) (L1 := fun z80 => [blk b17 58 (world_World.cs ⟨y42.1, y42.2.1, ⟨y59, y69⟩, y42.2.2.1, y79, (), y42.2.2.2.1, y42.2.2.2.2.1, y42.2.2.2.2.2.1, y42.2.2.2.2.2.2.1, y42.2.2.2.2.2.2.2.1, y42.2.2.2.2.2.2.2.2.1, y42.2.2.2.2.2.2.2.2.2.1, y42.2.2.2.2.2.2.2.2.2.2.1, y42.2.2.2.2.2.2.2.2.2.2.2.1, y42.2.2.2.2.2.2.2.2.2.2.2.2.1⟩ (pt b18 0) (pt b22 0) z60 z70 z27.2 z43.2 z80 (.map (some b13)) (.map (some b14)) (.map (some b15)) (.map (some b16))), bx chain_Chain.bd chain_Chain.fp (pt b18 0) y42.2.1.a0, bx chain_Chain.bd chain_Chain.fp (pt b22 0) y42.2.1.a1, bx client_Client.bd client_Client.fp z60 y59, bx client_Client.bd client_Client.fp z70 y69, bx router_Router.bd router_Router.fp z27.2 y42.2.2.1.a0, bx router_Router.bd router_Router.fp z43.2 y42.2.2.1.a1, bx relay_Relay.bd relay_Relay.fp z80 y79, mb (fun (x : world_place) => Ag x.cs) (fun (x : Int) => N x) (.map (some b13)) y42.2.2.2.2.2.2.1, mb (fun (x : world_word) => Ag x.cs) (fun (x : Bool) => Bo x) (.map (some b14)) y42.2.2.2.2.2.2.2.1, mb (fun (x : ByteArray) => Value.string x) (fun (x : api_Inv) => Ag x.cs) (.map (some b15)) y42.2.2.2.2.2.2.2.2.1, mb (fun (x : ByteArray) => Value.string x) (fun (x : world_data) => Ag x.cs) (.map (some b16)) y42.2.2.2.2.2.2.2.2.2.1]) (R1 := fun z80 => []) ?_ (fun z80 => ?_)
              · clear h
                refine .seq <| .reg rfl <| .opp (P.mov .g2) rfl <| .bxn relay_Relay.bd relay_Relay.fp ?_
                obtain ⟨r82, hr83, hj81⟩ := bnd_eq hj81
                refine .opg (G.call call17 (.cons .t0 (.cons .k .nil)) (S_world_World_corrupt b17 (⟨y42.1, y42.2.1, ⟨y59, y69⟩, y42.2.2.1, none, (), y42.2.2.2.1, y42.2.2.2.2.1, y42.2.2.2.2.2.1, y42.2.2.2.2.2.2.1, y42.2.2.2.2.2.2.2.1, y42.2.2.2.2.2.2.2.2.1, y42.2.2.2.2.2.2.2.2.2.1, y42.2.2.2.2.2.2.2.2.2.2.1, y42.2.2.2.2.2.2.2.2.2.2.2.1, y42.2.2.2.2.2.2.2.2.2.2.2.2.1⟩ : world_World) (pt b18 0) (pt b22 0) z60 z70 z27.2 z43.2 nilp (.map (some b13)) (.map (some b14)) (.map (some b15)) (.map (some b16)) 4 r82 hr83) (.cons .k1 (.cons .k3 (.cons .k3 (.cons .k3 (.cons .k3 (.cons .k3 (.cons .k3 (.cons .k0 (.cons .k2 (.cons .k2 (.cons .k2 (.cons .k2 .nil)))))))))))) .nil (fun _ _ => rfl) (fun _ _ => rfl) rfl) rfl fun _ _ => .opp (P.not .t0) rfl <| .nil <| .then <| .cond .t0 (fun c84 => ?_) (fun c84 => ?_)
                · rw [if_pos c84] at hj81
                  refine .reg rfl <| .opp (P.mov .g2) rfl <| .opg (G.call call21 .nil (S_relay_New  _ rfl) .nil .nil (fun _ _ => rfl) (fun _ _ => rfl) rfl) rfl fun ⟨b85, u86⟩ _ => .opp (P.nilc .t1) rfl <| .opp (P.fa .t0 fa_58_4 rfl) rfl <| .opg (G.str .t1 .t0 .k2 (.mk (cs' := (world_World.cs ⟨y42.1, y42.2.1, ⟨y59, y69⟩, y42.2.2.1, none, (), y42.2.2.2.1, y42.2.2.2.2.1, y42.2.2.2.2.2.1, y42.2.2.2.2.2.2.1, y42.2.2.2.2.2.2.2.1, y42.2.2.2.2.2.2.2.2.1, y42.2.2.2.2.2.2.2.2.2.1, y42.2.2.2.2.2.2.2.2.2.2.1, y42.2.2.2.2.2.2.2.2.2.2.2.1, y42.2.2.2.2.2.2.2.2.2.2.2.2.1⟩ (pt b18 0) (pt b22 0) z60 z70 z27.2 z43.2 (pt b85 0) (.map (some b13)) (.map (some b14)) (.map (some b15)) (.map (some b16)))) sizeOf53 rfl rfl rfl rfl)) rfl fun _ _ => .nil ?_
                  cases hj81
                  exact .bxc relay_Relay.bd relay_Relay.fp (b85, u86) relay_New (z := (pt b85 0)) rfl (.cons .k1 (.cons .k1 .nil)) <| .stj (pt b85 0) (.cons Mm.m2 .nil) (.of (.cons .k1 (.cons .k1 (.cons .k1 (.cons .k1 (.cons .k1 (.cons .k1 (.cons .k1 (.cons .k0 (.cons .k1 (.cons .k1 (.cons .k1 (.cons .k1 .nil))))))))))))) .nil
                · rw [if_neg (ne_true_of_eq_false c84)] at hj81
                  refine .skip ?_
                  cases hj81
                  exact .stj nilp (.cons Mm.m2 .nil) (.of (.cons .k0 (.cons .k0 (.cons .k0 (.cons .k0 (.cons .k0 (.cons .k0 (.cons .k0 (.cons .k0 (.cons .k0 (.cons .k0 (.cons .k0 (.cons .k0 .nil))))))))))))) .nil
              · clear hj81
                refine .seq <| .reg rfl <| .opp (P.mov .t0) rfl <| .opp (P.asg .t0) rfl <| .opp (P.asg .k) rfl <| .nil <| .then <| .ret ?_
                cases h
                exact .bxc world_World.bd world_World.fp (b17, (pt b18 0), (pt b22 0), z60, z70, z27.2, z43.2, z80, (.map (some b13)), (.map (some b14)), (.map (some b15)), (.map (some b16))) (⟨y42.1, y42.2.1, ⟨y59, y69⟩, y42.2.2.1, y79, (), y42.2.2.2.1, y42.2.2.2.2.1, y42.2.2.2.2.2.1, y42.2.2.2.2.2.2.1, y42.2.2.2.2.2.2.2.1, y42.2.2.2.2.2.2.2.2.1, y42.2.2.2.2.2.2.2.2.2.1, y42.2.2.2.2.2.2.2.2.2.2.1, y42.2.2.2.2.2.2.2.2.2.2.2.1, y42.2.2.2.2.2.2.2.2.2.2.2.2.1⟩ : world_World) (z := (pt b17 0)) rfl (.cons .k0 (.cons .k0 (.cons .k0 (.cons .k0 (.cons .k0 (.cons .k0 (.cons .k0 (.cons .k0 (.cons .k0 (.cons .k0 (.cons .k0 (.cons .k0 .nil)))))))))))) <| .finw (pt b17 0) (.r2 rfl (.tmp .g1) (.tmp .g0)) trivial (Ls.of (.cons .k0 .nil)) .nil
attribute [irreducible] world_New
noncomputable def script_Run (a0 : world_Setup) (a1 : List api_Step) : Option ((Option world_World) × Int) :=
  if (decide ((a1.length : Int) > 512)) = true then (some (none, 3)) else (Option.bind (world_New a0) fun r4 => if (decide (r4.2 ≠ 0)) = true then (some (none, r4.2)) else (if (decide (0 < (a1.length : Int))) = true then (Option.bind (at_ a1 0) fun (x13 : api_Step) => none) else (some (r4.1, 0))))
set_option maxRecDepth 20000 in
set_option maxHeartbeats 8000000 in
theorem S_script_Run (a0 : world_Setup) (v01 : Value) (a1 : List api_Step) (zl01 : List Value) (r : (Option world_World) × Int) (h : script_Run a0 a1 = some r) :
    SpecF Tryz.prog 58 [Ag (world_Setup.cs a0), v01] [] [rows 5 v01 (List.zipWith api_Step.cs a1 zl01), gz api_Step.g a1 zl01] (fun z : Value => True) (fun z => Tu [z, N r.2]) (fun z M => bx world_World.bd world_World.fp z r.1 ::  M) (fun z M =>  M) := by
  refine .of func58 rfl ntmps58 rfl fun w0 D0 G0 => ?_
  unfold script_Run at h
  refine .seq <| .reg rfl <| .opx (X.box (cs := (world_Setup.cs a0)) .t0 rfl) rfl fun b1 => .op0 (OpP.toV (P.asg .k)) rfl <| .op0 (OpP.toV (P.asg .k)) rfl <| .nil <| .then <| .seq <| .seq <| .reg rfl <| .opp (P.mov .g1) rfl <| .gzl Mm.m1 fun hz2 => ?_
  refine .op (V.lnr (n := a1.length) .t0 Mm.m0 (zip_len hz2) runUnderlying138) rfl <| .opp (P.bin .t0 .k .gtr) rfl <| .nil <| .then <| .cond .t0 (fun c3 => ?_) (fun c3 => ?_)
  · rw [if_pos c3] at h
    refine .seq <| .reg rfl <| .opp (P.asg .k) rfl <| .opp (P.asg .k) rfl <| .nil <| .then <| .ret <| .thr ?_
    cases h
    exact .bxn world_World.bd world_World.fp <| .finw nilp (.r2 rfl (.tmp .g1) (.tmp .g0)) trivial (Ls.of (.cons .k0 .nil)) .nil
  · rw [if_neg (ne_true_of_eq_false c3)] at h
    refine .skip <| .then <| .seq <| .reg rfl <| .op (V.ld (v := Ag (world_Setup.cs a0)) .t0 .k0 (.agg isAgg23 sizeOf23 rfl rfl)) rfl ?_
    obtain ⟨r4, hr5, h⟩ := bnd_eq h
    refine .opg (G.call call6 (.cons .t0 .nil) (S_world_New a0 r4 hr5) .nil .nil (fun _ _ => rfl) (fun _ _ => rfl) rfl) rfl fun u6 _ => .opp (P.mov .t0) rfl <| .opp (P.ext (v := u6) .g0 rfl) rfl <| .opp (P.ext (v := N r4.2) .t1 rfl) rfl <| .opp (P.asg .t1) rfl <| .opp (P.asg .t1) rfl <| .nil <| .then <| .seq <| .seq <| .reg rfl <| .opp (P.mov .g0) rfl ?_
    refine .opp (P.bin .t0 .k .neq) rfl <| .nil <| .then <| .cond .t0 (fun c7 => ?_) (fun c7 => ?_)
    · rw [if_pos c7] at h
      refine .seq <| .reg rfl <| .opp (P.mov .t0) rfl <| .opp (P.asg .k) rfl <| .opp (P.asg .t1) rfl <| .nil <| .then <| .ret <| .thr ?_
      cases h
      exact .bxn world_World.bd world_World.fp <| .finw nilp (.r2 rfl (.tmp .g1) (.tmp .g0)) trivial (Ls.of (.cons .k0 .nil)) .nil
    · rw [if_neg (ne_true_of_eq_false c7)] at h
      refine .skip <| .then <| .seq <| .seq <| .reg rfl <| .opp (P.mov .t2) rfl <| .gzl Mm.m1 fun hz8 => .op (V.lnr (n := a1.length) .g0 Mm.m0 (zip_len hz8) runUnderlying138) rfl <| .opp (P.mov .k) rfl <| .nil <| .then <| .block ?_
      refine .rounds 1 <| .rd <| .seq <| .reg rfl <| .opp (P.bin .g0 .g1 .lss) rfl <| .nil <| .then <| .seq <| .cond .t0 (fun c9 => ?_) (fun c9 => ?_)
      · rw [if_pos c9] at h
        refine .skip <| .then <| .seq <| .block <| .seq <| .reg rfl ?_
        obtain ⟨x13, hx14, h⟩ := bnd_eq h
        obtain ⟨i15, hi16, hx14⟩ := at_eq hx14
        refine .gzl Mm.m1 fun hz17 => .gzx (D := api_Step.cs) (q := fun z_ => rows 1 z_ (x13.Data.map (fun x => [B8 x]))) Mm.m1 hx14 (fun _ => rfl) fun u18 hz20 hx19 => ?_
        have hi16_ : (0 : Int).toNat = i15 := by rw [hi16]; rfl
        refine .ixq Mm.m1 hx19 fun p10 q11 hq12 => .opp (P.ixi (i := i15) .g0 hi16 .g2 hq12 runUnderlying138 sizeOf72) rfl <| .op (V.ldx0 (u := Ag (api_Step.cs x13 u18)) .t0 hq12 Mm.m1 hx19 (.agg isAgg72 sizeOf72 rfl rfl)) rfl <| .opx (X.alc (cs := (api_Step.cs ⟨0, 0, 0, 0, []⟩ nilSl)) zeroValue72 rfl) rfl fun b21 => .oner Mm.m0 fun ho22 => .opg (G.str .t1 .g0 .k0 (.mk (cs' := (api_Step.cs x13 u18)) sizeOf72 rfl (onez_72 (x13 : api_Step) ho22) rfl rfl)) rfl fun _ _ => .nil <| .then <| .reg rfl <| .opp (P.mov .g5) rfl <| .op (V.ld (v := Ag (api_Step.cs x13 u18)) .t1 .k0 (.agg isAgg72 sizeOf72 rfl rfl)) rfl ?_
        cases h
      · rw [if_neg (ne_true_of_eq_false c9)] at h
        refine .exit <| .thx <| .thx <| .inb <| .then <| .seq <| .reg rfl <| .opp (P.mov .t4) rfl <| .opp (P.asg .t0) rfl <| .opp (P.asg .k) rfl <| .nil <| .then ?_
        refine .ret ?_
        cases h
        exact .finw u6 (.r2 rfl (.tmp .g1) (.tmp .g0)) trivial (Ls.of (.cons .k0 .nil)) .nil
attribute [irreducible] script_Run
noncomputable def world_World_is_bx (a0 : Option world_World) : Option (Bool) :=
  Option.bind (if a0.isSome = true then (Option.bind a0 fun (y7 : world_World) => some y7.since.isSome) else (some false)) fun (y1 : Bool) => some y1
set_option maxRecDepth 20000 in
set_option maxHeartbeats 8000000 in
theorem S_world_World_is_bx (v00 : Value) (a0 : Option world_World) (r : Bool) (h : world_World_is_bx a0 = some r) :
    SpecF Tryz.prog 23 [v00] [bx world_World.bd world_World.fp v00 a0] [] (fun z : Unit => True) (fun z => Bo r) (fun z M => bx world_World.bd world_World.fp v00 a0 ::  M) (fun z M =>  M) := by
  refine .of func23 rfl ntmps23 rfl fun w0 D0 G0 => ?_
  unfold world_World_is_bx at h
  refine .seq <| .reg rfl <| .op0 (OpP.toV (P.asg .k)) rfl <| .nil <| .then ?_
  obtain ⟨y1, hj3, h⟩ := bnd_eq h
  refine .cutx (γ := Unit) (E1 := fun z2 => [(2, Bo y1)]) (L1 := fun z2 => [bx world_World.bd world_World.fp v00 a0]) (R1 := fun z2 => []) ?_ (fun z2 => ?_)
  · clear h
    refine .reg rfl <| .opp (P.mov .g0) rfl <| .fact .k0 (fun _ hh => bx_nil (P := Tryz.prog) (t := 25) (e := 58) (by kernel_rfl) hh) fun hq4 => .opp (P.bin .t0 .k hq4.2) rfl <| .opp (P.mov .t0) rfl <| .split .k0 (fun c5 => ?_) (fun c5 => ?_)
    · rw [if_pos c5] at hj3
      refine .gyes rfl .g0 <| .opp (P.mov .t1) rfl <| .gyes rfl .g1 ?_
      obtain ⟨y7, hy8, hj3⟩ := bnd_eq hj3
      refine .bxo .k0 hy8 (fun _ _ _ => rfl) fun ⟨b9, u10, u11, u12, u13, u14, u15, u16, u17, u18, u19, u20⟩ hz6 => ?_
      replace hz6 : v00 = pt b9 0 := hz6
      subst hz6
      refine .opp (P.nilc .t0) rfl <| .gyes rfl .g1 <| .opp (P.fa .t0 fa_58_9 rfl) rfl <| .gyes rfl .g1 <| .op (V.ld (v := u17) .t0 .k0 (.one isAgg44 rfl)) rfl <| .gyes rfl .g1 <| .fact .k8 (fun _ hh => mb_nil (P := Tryz.prog) (t := 44) (k := 167) (e := 3) (by kernel_rfl) hh) fun hq21 => .opp (P.bin .t0 .k hq21.2) rfl <| .opp (P.pickT .t1 .t0) rfl <| .opp (P.asg .t0) rfl <| .nil ?_
      cases hj3
      exact .bxc world_World.bd world_World.fp (b9, u10, u11, u12, u13, u14, u15, u16, u17, u18, u19, u20) y7 (z := (pt b9 0)) rfl (.cons .k0 (.cons .k0 (.cons .k0 (.cons .k0 (.cons .k0 (.cons .k0 (.cons .k0 (.cons .k0 (.cons .k0 (.cons .k0 (.cons .k0 (.cons .k0 .nil)))))))))))) <| .conseq .k0 (q := bx world_World.bd world_World.fp (pt b9 0) a0) (fun _ h_ => by rw [hy8]; exact h_) <| .stj () (.cons Mm.m0 .nil) (.of (.cons .k0 .nil)) .nil
    · rw [if_neg (ne_true_of_eq_false c5)] at hj3
      refine .gno rfl .g0 rfl rfl <| .gno rfl .g0 rfl rfl <| .gno rfl .g0 rfl rfl <| .gno rfl .g0 rfl rfl <| .gno rfl .g0 rfl rfl <| .opp (P.pickF .t0 .k) rfl <| .opp (P.asg .t0) rfl <| .nil ?_
      cases hj3
      exact .stj () (.cons Mm.m0 .nil) (.of (.cons .k0 .nil)) .nil
  · clear hj3
    refine .ret ?_
    cases h
    exact .finw () (.r1 rfl (.tmp .g0)) trivial (Ls.of (.cons .k0 .nil)) .nil
attribute [irreducible] world_World_is_bx
noncomputable def world_World_Now_bx (a0 : Option world_World) : Option (Int) :=
  Option.bind (world_World_is_bx a0) fun r1 => if (!r1) = true then (some 0) else (Option.bind a0 fun (y5 : world_World) => some y5.now)
set_option maxRecDepth 20000 in
set_option maxHeartbeats 8000000 in
theorem S_world_World_Now_bx (v00 : Value) (a0 : Option world_World) (r : Int) (h : world_World_Now_bx a0 = some r) :
    SpecF Tryz.prog 8 [v00] [bx world_World.bd world_World.fp v00 a0] [] (fun z : Unit => True) (fun z => N r) (fun z M => bx world_World.bd world_World.fp v00 a0 ::  M) (fun z M =>  M) := by
  refine .of func8 rfl ntmps8 rfl fun w0 D0 G0 => ?_
  unfold world_World_Now_bx at h
  refine .seq <| .reg rfl <| .op0 (OpP.toV (P.asg .k)) rfl <| .nil <| .then <| .seq <| .seq <| .reg rfl <| .opp (P.mov .g0) rfl ?_
  obtain ⟨r1, hr2, h⟩ := bnd_eq h
  refine .opg (G.call call23 (.cons .t0 .nil) (S_world_World_is_bx v00 a0 r1 hr2) (.cons .k0 .nil) .nil (fun _ _ => rfl) (fun _ _ => rfl) rfl) rfl fun _ _ => .opp (P.not .t0) rfl <| .nil <| .then <| .cond .t0 (fun c3 => ?_) (fun c3 => ?_)
  · rw [if_pos c3] at h
    refine .seq <| .reg rfl <| .opp (P.asg .k) rfl <| .nil <| .then <| .ret <| .thr ?_
    cases h
    exact .finw () (.r1 rfl (.tmp .g0)) trivial (Ls.of (.cons .k0 .nil)) .nil
  · rw [if_neg (ne_true_of_eq_false c3)] at h
    refine .skip <| .then <| .seq <| .reg rfl <| .opp (P.mov .t0) rfl ?_
    obtain ⟨y5, hy6, h⟩ := bnd_eq h
    refine .bxo .k0 hy6 (fun _ _ _ => rfl) fun ⟨b7, u8, u9, u10, u11, u12, u13, u14, u15, u16, u17, u18⟩ hz4 => ?_
    replace hz4 : v00 = pt b7 0 := hz4
    subst hz4
    refine .opp (P.nilc .t0) rfl <| .opp (P.fa .t0 fa_58_6 rfl) rfl <| .op (V.ld (v := N y5.now) .t0 .k0 (.one isAgg3 rfl)) rfl <| .opp (P.asg .t0) rfl <| .nil <| .then <| .ret ?_
    cases h
    exact .bxc world_World.bd world_World.fp (b7, u8, u9, u10, u11, u12, u13, u14, u15, u16, u17, u18) y5 (z := (pt b7 0)) rfl (.cons .k0 (.cons .k0 (.cons .k0 (.cons .k0 (.cons .k0 (.cons .k0 (.cons .k0 (.cons .k0 (.cons .k0 (.cons .k0 (.cons .k0 (.cons .k0 .nil)))))))))))) <| .conseq .k0 (q := bx world_World.bd world_World.fp (pt b7 0) a0) (fun _ h_ => by rw [hy6]; exact h_) <| .finw () (.r1 rfl (.tmp .g0)) trivial (Ls.of (.cons .k0 .nil)) .nil
attribute [irreducible] world_World_Now_bx
noncomputable def net_all_nil  : (List api_Mail) :=
  ([] : List api_Mail)
set_option maxRecDepth 20000 in
set_option maxHeartbeats 8000000 in
theorem S_net_all_nil  (r : (List api_Mail)) (h : net_all_nil  = r) :
    SpecF Tryz.prog 149 [nilSl] [] [] (fun z : Value × List Value => True) (fun z => z.1) (fun z M => lst 186 2 z.1 (List.zipWith api_Mail.cs r z.2) ::  M) (fun z M => gz api_Mail.g r z.2 ::  M) := by
  refine .of func149 rfl ntmps149 rfl fun w0 D0 G0 => ?_
  unfold net_all_nil at h
  refine .seq <| .reg rfl <| .op0 (OpP.toV (P.asg .k)) rfl <| .nil <| .then <| .seq <| .reg rfl <| .opp (P.asg .k) rfl <| .nil <| .then <| .seq <| .seq ?_
  refine .reg rfl <| .opp (P.mov .t1) rfl <| .opp (P.lenn .g0 runUnderlying54) rfl <| .opp (P.mov .k) rfl <| .nil <| .then <| .block <| .rounds 1 <| .rd <| .seq <| .reg rfl <| .opp (P.bin (v := Bo false) .g0 .g1 (BinV.lss.boolc (by decide))) rfl ?_
  refine .nil <| .then <| .seq <| .condF .t0 <| .exit <| .thx <| .thx <| .inb <| .then <| .seq <| .reg rfl <| .opp (P.mov .t3) rfl ?_
  refine .opp (P.asg .t0) rfl <| .nil <| .then <| .ret ?_
  subst h
  exact .lnil 186 2 <| .gzn (G := api_Mail.g) <| .finw ⟨nilSl, []⟩ (.r1 rfl (.tmp .g0)) trivial (Ls.of (.cons .k0 .nil)) (.cons Mm.m0 .nil)
attribute [irreducible] net_all_nil
noncomputable def net_Twin_nil (a1 : Int) : (List api_Mail) :=
  net_all_nil
set_option maxRecDepth 20000 in
set_option maxHeartbeats 8000000 in
theorem S_net_Twin_nil (a1 : Int) (r : (List api_Mail)) (h : net_Twin_nil a1 = r) :
    SpecF Tryz.prog 87 [nilSl, N a1] [] [] (fun z : Value × List Value => True) (fun z => z.1) (fun z M => lst 186 2 z.1 (List.zipWith api_Mail.cs r z.2) ::  M) (fun z M => gz api_Mail.g r z.2 ::  M) := by
  refine .of func87 rfl ntmps87 rfl fun w0 D0 G0 => ?_
  unfold net_Twin_nil at h
  refine .seq <| .reg rfl <| .op0 (OpP.toV (P.asg .k)) rfl <| .nil <| .then <| .seq <| .reg rfl <| .opp (P.mov .g0) rfl <| .opg (G.call call149 (.cons .t0 .nil) (S_net_all_nil  _ rfl) .nil .nil (fun _ _ => rfl) (fun _ _ => rfl) rfl) rfl fun ⟨u1, w2⟩ _ => .opp (P.asg .t0) rfl <| .nil <| .then ?_
  refine .seq <| .seq <| .reg rfl <| .opp (P.mov .g1) rfl <| .opp (P.lenn .t0 runUnderlying54) rfl <| .opp (P.bin (v := Bo true) .t0 .k (BinV.eql.boolc (by decide))) rfl <| .nil <| .then <| .condT .t0 <| .seq <| .reg rfl <| .opp (P.mov .t0) rfl ?_
  refine .opp (P.asg .t0) rfl <| .nil <| .then <| .ret <| .thr ?_
  subst h
  exact .finw ⟨u1, w2⟩ (.r1 rfl (.tmp .g0)) trivial (Ls.of (.cons .k0 .nil)) (.cons Mm.m0 .nil)
attribute [irreducible] net_Twin_nil
noncomputable def world_World_Mail_bx (a0 : Option world_World) : Option ((List api_Mail)) :=
  Option.bind (world_World_is_bx a0) fun r1 => if (!r1) = true then (some ([] : List api_Mail)) else (Option.bind a0 fun (y5 : world_World) => grd (okS (net_Twin_nil 0).length none (some 0) none) <| some ((slc (net_Twin_nil 0) 0 (0 : Int).toNat)))
set_option maxRecDepth 20000 in
set_option maxHeartbeats 8000000 in
theorem S_world_World_Mail_bx (v00 : Value) (a0 : Option world_World) (r : (List api_Mail)) (h : world_World_Mail_bx a0 = some r) :
    SpecF Tryz.prog 59 [v00] [bx world_World.bd world_World.fp v00 a0] [] (fun z : Value × List Value => True) (fun z => z.1) (fun z M => bx world_World.bd world_World.fp v00 a0 ::  M) (fun z M => rows 2 z.1 (List.zipWith api_Mail.cs r z.2) :: gz api_Mail.g r z.2 ::  M) := by
  refine .of func59 rfl ntmps59 rfl fun w0 D0 G0 => ?_
  unfold world_World_Mail_bx at h
  refine .seq <| .reg rfl <| .op0 (OpP.toV (P.asg .k)) rfl <| .nil <| .then <| .seq <| .seq <| .reg rfl <| .opp (P.mov .g0) rfl ?_
  obtain ⟨r1, hr2, h⟩ := bnd_eq h
  refine .opg (G.call call23 (.cons .t0 .nil) (S_world_World_is_bx v00 a0 r1 hr2) (.cons .k0 .nil) .nil (fun _ _ => rfl) (fun _ _ => rfl) rfl) rfl fun _ _ => .opp (P.not .t0) rfl <| .nil <| .then <| .cond .t0 (fun c3 => ?_) (fun c3 => ?_)
  · rw [if_pos c3] at h
    refine .seq <| .reg rfl <| .opp (P.asg .k) rfl <| .nil <| .then <| .ret <| .thr ?_
    cases h
    exact .rnil0 2 <| .gzn (G := api_Mail.g) <| .finw ⟨nilSl, []⟩ (.r1 rfl (.tmp .g0)) trivial (Ls.of (.cons .k0 .nil)) (.cons Mm.m1 (.cons Mm.m0 .nil))
  · rw [if_neg (ne_true_of_eq_false c3)] at h
    refine .skip <| .then <| .seq ?_
    obtain ⟨y5, hy6, h⟩ := bnd_eq h
    refine .bxo .k0 hy6 (fun _ _ _ => rfl) fun ⟨b7, u8, u9, u10, u11, u12, u13, u14, u15, u16, u17, u18⟩ hz4 => ?_
    replace hz4 : v00 = pt b7 0 := hz4
    subst hz4
    refine .draw 23 (.on 0 .pu (.on 1 .pu (.on 2 .pu (.on 4 .pu (.on 5 .pu (.on 6 .pu (.on 9 .pu (.on 10 .pu (.on 11 .pu (.on 16 .pu (.on 17 .pu (.on 18 .pu (.on 3 .ld (.on 7 .ld (.on 8 .ld (.on 12 .ld (.on 13 .ld (.on 14 .pu (.on 19 .ld (.on 20 .ld (.on 15 .go (.on 21 .pu (.on 22 .go .nl))))))))))))))))))))))) follows_mixed (.thn .body) (by kernel_rfl) <| .dpu rfl (.n rfl) (P.mov .g0) rfl rfl <| .dpu rfl (.n rfl) (P.nilc .t0) rfl rfl <| .dpu rfl (.n rfl) (P.fa .t0 fa_58_5 rfl) rfl rfl <| .dpu rfl (.n rfl) (P.mov .g1) rfl rfl <| .dpu rfl (.n rfl) (P.nilc .t0) rfl rfl <| .dpu rfl (.n rfl) (P.fa .t0 fa_58_5 rfl) rfl rfl <| .dpu rfl (.n rfl) (P.mov .g2) rfl rfl <| .dpu rfl (.n rfl) (P.nilc .t0) rfl rfl <| .dpu rfl (.n rfl) (P.fa .t0 fa_58_5 rfl) rfl rfl <| .dpu rfl (.n rfl) (P.mov .t3) rfl rfl <| .dpu rfl (.n rfl) (P.nilc .t0) rfl rfl ?_
    refine .dpu rfl (.n rfl) (P.fa .t0 fa_58_5 rfl) rfl rfl <| .dld rfl (.n rfl) (V.ld (v := nilSl) .t3 .k0 (.one isAgg54 rfl)) (fun _ h => h) rfl rfl <| .dld rfl (.n rfl) (V.ld (v := nilSl) .t3 .k0 (.one isAgg54 rfl)) (fun _ h => h) rfl rfl <| .dld rfl (.n rfl) (OpP.toV (P.lenn .t0 runUnderlying54)) (fun _ h => h) rfl rfl <| .dld rfl (.n rfl) (V.ld (v := nilSl) .t3 .k0 (.one isAgg54 rfl)) (fun _ h => h) rfl rfl <| .dld rfl (.n rfl) (OpP.toV (P.lenn .t0 runUnderlying54)) (fun _ h => h) rfl rfl <| .dpu rfl (.n rfl) (P.sln3 .t2 .t1 .t0 runUnderlying54 sizeOf186) rfl rfl <| .dld rfl (.n rfl) (V.ld (v := nilSl) .t1 .k0 (.one isAgg54 rfl)) (fun _ h => h) rfl rfl <| .dld rfl (.n rfl) (OpP.toV (P.lenn .t0 runUnderlying54)) (fun _ h => h) rfl rfl <| .dgo rfl (.n rfl) (G.call call87 (.cons .t1 (.cons .k .nil)) (S_net_Twin_nil 0 _ rfl) .nil .nil (fun _ _ => rfl) (fun _ _ => rfl) rfl) (.inr fun _ _ _ h => (h.imp (Ls.of (.cons .k1 (.cons .k1 (.cons .k1 (.cons .k1 (.cons .k1 (.cons .k1 (.cons .k1 (.cons .k1 (.cons .k1 (.cons .k1 (.cons .k1 (.cons .k1 .nil)))))))))))))).ro Rs.nil) fun ⟨u19, w20⟩ _ => .frz .k0 <| .gzl Mm.m1 fun hz21 => ?_
    obtain ⟨hb22, h⟩ := grd_eq h
    refine .slnq Mm.m0 fun hq26 => ?_
    simp only [zip_len hz21] at hq26
    refine .dpu rfl (.n rfl) (P.slp (li := none) (hj := (some 0)) (mk := none) .t0 .none (.some .t0) .none hq26 runUnderlying54 sizeOf186 (by simpa [zip_len hz21] using hb22)) rfl rfl <| .slgen Mm.m0 (by simpa [zip_len hz21] using hb22) fun u23 => .rhead (q := rows 2 u23 (List.zipWith api_Mail.cs (slc (net_Twin_nil 0) 0 (0 : Int).toNat) (slc w20 0 (0 : Int).toNat))) (fun _ hh => by simpa [slc_zip, zip_len hz21] using hh) <| .gzs 0 (0 : Int).toNat Mm.m2 <| .dgo rfl (.n rfl) (OpV.g (OpP.toV (P.asg .t0)) rfl) (.inr fun _ _ _ h => (h.imp (Ls.of (.cons .k0 (.cons .k0 (.cons .k0 (.cons .k0 (.cons .k0 (.cons .k0 (.cons .k0 (.cons .k0 (.cons .k0 (.cons .k0 (.cons .k0 (.cons .k0 .nil)))))))))))))).ro Rs.nil) fun _ _ => .dnil <| .then <| .ret ?_
    cases h
    exact .bxc world_World.bd world_World.fp (b7, u8, u9, u10, u11, u12, u13, u14, u15, u16, u17, u18) y5 (z := (pt b7 0)) rfl (.cons .k0 (.cons .k0 (.cons .k0 (.cons .k0 (.cons .k0 (.cons .k0 (.cons .k0 (.cons .k0 (.cons .k0 (.cons .k0 (.cons .k0 (.cons .k0 .nil)))))))))))) <| .conseq .k0 (q := bx world_World.bd world_World.fp (pt b7 0) a0) (fun _ h_ => by rw [hy6]; exact h_) <| .finw ⟨u23, (slc w20 0 (0 : Int).toNat)⟩ (.r1 rfl (.tmp .g0)) trivial (Ls.of (.cons .k0 .nil)) (.cons Mm.m1 (.cons Mm.m0 .nil))
attribute [irreducible] world_World_Mail_bx
noncomputable def world_World_is (a0 : world_World) : Bool :=
  a0.since.isSome
set_option maxRecDepth 20000 in
set_option maxHeartbeats 8000000 in
theorem S_world_World_is (b00 : Nat) (a0 : world_World) (z00a z00b z00c z00d z00e z00f z00g z00h z00i z00j z00k : Value) (r : Bool) (h : world_World_is a0 = r) :
    SpecF Tryz.prog 23 [pt b00 0] [blk b00 58 (world_World.cs a0 z00a z00b z00c z00d z00e z00f z00g z00h z00i z00j z00k), bx chain_Chain.bd chain_Chain.fp z00a a0.sides.a0, bx chain_Chain.bd chain_Chain.fp z00b a0.sides.a1, bx client_Client.bd client_Client.fp z00c a0.clients.a0, bx client_Client.bd client_Client.fp z00d a0.clients.a1, bx router_Router.bd router_Router.fp z00e a0.routers.a0, bx router_Router.bd router_Router.fp z00f a0.routers.a1, bx relay_Relay.bd relay_Relay.fp z00g a0.relay, mb (fun (x : world_place) => Ag x.cs) (fun (x : Int) => N x) z00h a0.since, mb (fun (x : world_word) => Ag x.cs) (fun (x : Bool) => Bo x) z00i a0.told, mb (fun (x : ByteArray) => Value.string x) (fun (x : api_Inv) => Ag x.cs) z00j a0.keys, mb (fun (x : ByteArray) => Value.string x) (fun (x : world_data) => Ag x.cs) z00k a0.digests] [] (fun z : Unit => True) (fun z => Bo r) (fun z M => blk b00 58 (world_World.cs a0 z00a z00b z00c z00d z00e z00f z00g z00h z00i z00j z00k) :: bx chain_Chain.bd chain_Chain.fp z00a a0.sides.a0 :: bx chain_Chain.bd chain_Chain.fp z00b a0.sides.a1 :: bx client_Client.bd client_Client.fp z00c a0.clients.a0 :: bx client_Client.bd client_Client.fp z00d a0.clients.a1 :: bx router_Router.bd router_Router.fp z00e a0.routers.a0 :: bx router_Router.bd router_Router.fp z00f a0.routers.a1 :: bx relay_Relay.bd relay_Relay.fp z00g a0.relay :: mb (fun (x : world_place) => Ag x.cs) (fun (x : Int) => N x) z00h a0.since :: mb (fun (x : world_word) => Ag x.cs) (fun (x : Bool) => Bo x) z00i a0.told :: mb (fun (x : ByteArray) => Value.string x) (fun (x : api_Inv) => Ag x.cs) z00j a0.keys :: mb (fun (x : ByteArray) => Value.string x) (fun (x : world_data) => Ag x.cs) z00k a0.digests ::  M) (fun z M =>  M) := by
  refine .of func23 rfl ntmps23 rfl fun w0 D0 G0 => ?_
  unfold world_World_is at h
  refine .seq <| .reg rfl <| .op0 (OpP.toV (P.asg .k)) rfl <| .nil <| .then <| .seq <| .reg rfl <| .opp (P.mov .g0) rfl <| .opp (P.bin .t0 .k (.ptr_neq (e := 58) (by kernel_rfl))) rfl <| .opp (P.mov .t0) rfl <| .gyes rfl .g0 <| .opp (P.mov .t1) rfl ?_
  refine .gyes rfl .g1 <| .opp (P.nilc .t0) rfl <| .gyes rfl .g1 <| .opp (P.fa .t0 fa_58_9 rfl) rfl <| .gyes rfl .g1 <| .op (V.ld (v := z00h) .t0 .k0 (.one isAgg44 rfl)) rfl <| .gyes rfl .g1 <| .fact .k8 (fun _ hh => mb_nil (P := Tryz.prog) (t := 44) (k := 167) (e := 3) (by kernel_rfl) hh) fun hq1 => .opp (P.bin .t0 .k hq1.2) rfl <| .opp (P.pickT .t1 .t0) rfl <| .opp (P.asg .t0) rfl <| .nil ?_
  refine .then <| .ret ?_
  subst h
  exact .finw () (.r1 rfl (.tmp .g0)) trivial (Ls.of (.cons .k0 (.cons .k0 (.cons .k0 (.cons .k0 (.cons .k0 (.cons .k0 (.cons .k0 (.cons .k0 (.cons .k0 (.cons .k0 (.cons .k0 (.cons .k0 .nil))))))))))))) .nil
attribute [irreducible] world_World_is
noncomputable def world_within (a0 : Int) (a1 : Int) : Bool :=
  thn (if (decide (a0 ≥ 0)) = true then (decide (a0 < a1)) else false) fun (y1 : Bool) => y1
set_option maxRecDepth 20000 in
set_option maxHeartbeats 8000000 in
theorem S_world_within (a0 : Int) (a1 : Int) (r : Bool) (h : world_within a0 a1 = r) :
    SpecF Tryz.prog 24 [N a0, N a1] [] [] (fun z : Unit => True) (fun z => Bo r) (fun z M =>  M) (fun z M =>  M) := by
  refine .of func24 rfl ntmps24 rfl fun w0 D0 G0 => ?_
  unfold world_within at h
  refine .seq <| .reg rfl <| .op0 (OpP.toV (P.asg .k)) rfl <| .nil <| .then ?_
  obtain ⟨y1, hj3, h⟩ := thn_eq h
  refine .cutx (γ := Unit) (E1 := fun z2 => [(4, Bo y1)]) (L1 := fun z2 => []) (R1 := fun z2 => []) ?_ (fun z2 => ?_)
  · clear h
    refine .reg rfl <| .opp (P.mov .g0) rfl <| .opp (P.bin .t0 .k .geq) rfl <| .opp (P.mov .t0) rfl <| .split .k0 (fun c4 => ?_) (fun c4 => ?_)
    · rw [if_pos c4] at hj3
      refine .gyes rfl .g0 <| .opp (P.mov .t1) rfl <| .gyes rfl .g1 <| .opp (P.mov .t2) rfl <| .gyes rfl .g2 <| .opp (P.bin .t1 .t0 .lss) rfl <| .opp (P.pickT .t1 .t0) rfl <| .opp (P.asg .t0) rfl <| .nil ?_
      subst hj3
      exact .stj () (.cons Mm.m0 .nil) (.of .nil) .nil
    · rw [if_neg (ne_true_of_eq_false c4)] at hj3
      refine .gno rfl .g0 rfl rfl <| .gno rfl .g0 rfl rfl <| .gno rfl .g0 rfl rfl <| .opp (P.pickF .t0 .k) rfl <| .opp (P.asg .t0) rfl <| .nil ?_
      subst hj3
      exact .stj () (.cons Mm.m0 .nil) (.of .nil) .nil
  · clear hj3
    refine .ret ?_
    subst h
    exact .finw () (.r1 rfl (.tmp .g0)) trivial (Ls.of .nil) .nil
attribute [irreducible] world_within
noncomputable def world_World_Side_k0 (a0 : world_World) : Nat :=
  thn (if (!(world_World_is a0)) = true then true else (!(world_within 0 2))) fun (y1 : Bool) => if y1 = true then 0 else 1
set_option maxRecDepth 20000 in
set_option maxHeartbeats 8000000 in
theorem S_world_World_Side_k0 (b00 : Nat) (a0 : world_World) (z00a z00b z00c z00d z00e z00f z00g z00h z00i z00j z00k : Value) (r : Nat) (h : world_World_Side_k0 a0 = r) :
    SpecF Tryz.prog 9 [pt b00 0, N 0] [blk b00 58 (world_World.cs a0 z00a z00b z00c z00d z00e z00f z00g z00h z00i z00j z00k), bx chain_Chain.bd chain_Chain.fp z00a a0.sides.a0, bx chain_Chain.bd chain_Chain.fp z00b a0.sides.a1, bx client_Client.bd client_Client.fp z00c a0.clients.a0, bx client_Client.bd client_Client.fp z00d a0.clients.a1, bx router_Router.bd router_Router.fp z00e a0.routers.a0, bx router_Router.bd router_Router.fp z00f a0.routers.a1, bx relay_Relay.bd relay_Relay.fp z00g a0.relay, mb (fun (x : world_place) => Ag x.cs) (fun (x : Int) => N x) z00h a0.since, mb (fun (x : world_word) => Ag x.cs) (fun (x : Bool) => Bo x) z00i a0.told, mb (fun (x : ByteArray) => Value.string x) (fun (x : api_Inv) => Ag x.cs) z00j a0.keys, mb (fun (x : ByteArray) => Value.string x) (fun (x : world_data) => Ag x.cs) z00k a0.digests] [] (fun z : Unit => True) (fun z => pk r 0 [nilp, z00a]) (fun z M => blk b00 58 (world_World.cs a0 z00a z00b z00c z00d z00e z00f z00g z00h z00i z00j z00k) :: bx chain_Chain.bd chain_Chain.fp z00a a0.sides.a0 :: bx chain_Chain.bd chain_Chain.fp z00b a0.sides.a1 :: bx client_Client.bd client_Client.fp z00c a0.clients.a0 :: bx client_Client.bd client_Client.fp z00d a0.clients.a1 :: bx router_Router.bd router_Router.fp z00e a0.routers.a0 :: bx router_Router.bd router_Router.fp z00f a0.routers.a1 :: bx relay_Relay.bd relay_Relay.fp z00g a0.relay :: mb (fun (x : world_place) => Ag x.cs) (fun (x : Int) => N x) z00h a0.since :: mb (fun (x : world_word) => Ag x.cs) (fun (x : Bool) => Bo x) z00i a0.told :: mb (fun (x : ByteArray) => Value.string x) (fun (x : api_Inv) => Ag x.cs) z00j a0.keys :: mb (fun (x : ByteArray) => Value.string x) (fun (x : world_data) => Ag x.cs) z00k a0.digests ::  M) (fun z M =>  M) := by
  refine .of func9 rfl ntmps9 rfl fun w0 D0 G0 => ?_
  unfold world_World_Side_k0 at h
  refine .seq <| .reg rfl <| .op0 (OpP.toV (P.asg .k)) rfl <| .nil <| .then <| .seq ?_
  obtain ⟨y1, hj3, h⟩ := thn_eq h
  refine .cutx (γ := Unit) (E1 := fun z2 => [(12, Bo y1), (0, pt b00 0), (1, N 0)]) (L1 := fun z2 => [blk b00 58 (world_World.cs a0 z00a z00b z00c z00d z00e z00f z00g z00h z00i z00j z00k), bx chain_Chain.bd chain_Chain.fp z00a a0.sides.a0, bx chain_Chain.bd chain_Chain.fp z00b a0.sides.a1, bx client_Client.bd client_Client.fp z00c a0.clients.a0, bx client_Client.bd client_Client.fp z00d a0.clients.a1, bx router_Router.bd router_Router.fp z00e a0.routers.a0, bx router_Router.bd router_Router.fp z00f a0.routers.a1, bx relay_Relay.bd relay_Relay.fp z00g a0.relay, mb (fun (x : world_place) => Ag x.cs) (fun (x : Int) => N x) z00h a0.since, mb (fun (x : world_word) => Ag x.cs) (fun (x : Bool) => Bo x) z00i a0.told, mb (fun (x : ByteArray) => Value.string x) (fun (x : api_Inv) => Ag x.cs) z00j a0.keys, mb (fun (x : ByteArray) => Value.string x) (fun (x : world_data) => Ag x.cs) z00k a0.digests]) (R1 := fun z2 => []) ?_ (fun z2 => ?_)
  · clear h
    refine .reg rfl <| .opp (P.mov .g0) rfl <| .opg (G.call call23 (.cons .t0 .nil) (S_world_World_is b00 a0 z00a z00b z00c z00d z00e z00f z00g z00h z00i z00j z00k _ rfl) (.cons .k0 (.cons .k0 (.cons .k0 (.cons .k0 (.cons .k0 (.cons .k0 (.cons .k0 (.cons .k0 (.cons .k0 (.cons .k0 (.cons .k0 (.cons .k0 .nil)))))))))))) .nil (fun _ _ => rfl) (fun _ _ => rfl) rfl) rfl fun _ _ => .opp (P.not .t0) rfl <| .opp (P.mov .t0) rfl <| .split .k0 (fun c4 => ?_) (fun c4 => ?_)
    · rw [if_pos c4] at hj3
      refine .gno rfl .g0 rfl rfl <| .gno rfl .g0 rfl rfl <| .gno rfl .g0 rfl rfl <| .opp (P.pickT .t0 .k) rfl <| .nil ?_
      subst hj3
      exact .stj () (.cons Mm.m0 (.cons Mm.m1 (.cons Mm.m2 .nil))) (.of (.cons .k0 (.cons .k0 (.cons .k0 (.cons .k0 (.cons .k0 (.cons .k0 (.cons .k0 (.cons .k0 (.cons .k0 (.cons .k0 (.cons .k0 (.cons .k0 .nil))))))))))))) .nil
    · rw [if_neg (ne_true_of_eq_false c4)] at hj3
      refine .gyes rfl .g0 <| .opp (P.mov .g2) rfl <| .gyes rfl .g1 <| .opg (G.call call24 (.cons .t0 (.cons .k .nil)) (S_world_within 0 2 _ rfl) .nil .nil (fun _ _ => rfl) (fun _ _ => rfl) rfl) rfl fun _ _ => .gyes rfl .g1 <| .opp (P.not .t0) rfl <| .opp (P.pickF .t1 .t0) rfl <| .nil ?_
      subst hj3
      exact .stj () (.cons Mm.m0 (.cons Mm.m1 (.cons Mm.m2 .nil))) (.of (.cons .k0 (.cons .k0 (.cons .k0 (.cons .k0 (.cons .k0 (.cons .k0 (.cons .k0 (.cons .k0 (.cons .k0 (.cons .k0 (.cons .k0 (.cons .k0 .nil))))))))))))) .nil
  · clear hj3
    refine .cond .t0 (fun c5 => ?_) (fun c5 => ?_)
    · rw [if_pos c5] at h
      refine .seq <| .reg rfl <| .opp (P.asg .k) rfl <| .nil <| .then <| .ret <| .thr ?_
      subst h
      exact .finw () (.r1 rfl (.tmp .g0)) trivial (Ls.of (.cons .k0 (.cons .k0 (.cons .k0 (.cons .k0 (.cons .k0 (.cons .k0 (.cons .k0 (.cons .k0 (.cons .k0 (.cons .k0 (.cons .k0 (.cons .k0 .nil))))))))))))) .nil
    · rw [if_neg (ne_true_of_eq_false c5)] at h
      refine .skip <| .then <| .seq <| .reg rfl <| .opp (P.mov .t0) rfl <| .opp (P.mov .t1) rfl <| .opp (P.nilc .t1) rfl <| .opp (P.fa .t0 fa_58_1 rfl) rfl <| .opp (P.iac (i := 0) .t1 rfl .t0 runUnderlying48 sizeOf32 rfl rfl) rfl <| .op (V.ld (v := z00a) .t0 .k0 (.one isAgg32 rfl)) rfl <| .opp (P.asg .t0) rfl <| .nil ?_
      refine .then <| .ret ?_
      subst h
      exact .finw () (.r1 rfl (.tmp .g0)) trivial (Ls.of (.cons .k0 (.cons .k0 (.cons .k0 (.cons .k0 (.cons .k0 (.cons .k0 (.cons .k0 (.cons .k0 (.cons .k0 (.cons .k0 (.cons .k0 (.cons .k0 .nil))))))))))))) .nil
attribute [irreducible] world_World_Side_k0
noncomputable def slices_Clone_api_Event (a0 : List api_Event) : Option ((List api_Event)) :=
  grd ((([] : List api_Event).length + a0.length) * 240 ≤ 140737488355328) <| some ((([] : List api_Event) ++ a0))
set_option maxRecDepth 20000 in
set_option maxHeartbeats 8000000 in
theorem S_slices_Clone_api_Event (v00 : Value) (a0 : List api_Event) (r : (List api_Event)) (h : slices_Clone_api_Event a0 = some r) :
    SpecF Tryz.prog 109 [v00] [] [rows 27 v00 (a0.map api_Event.cs)] (fun z : Value => True) (fun z => z) (fun z M => lst 162 27 z (r.map api_Event.cs) ::  M) (fun z M =>  M) := by
  refine .of func109 rfl ntmps109 rfl fun w0 D0 G0 => ?_
  unfold slices_Clone_api_Event at h
  refine .seq <| .reg rfl <| .op0 (OpP.toV (P.asg .k)) rfl <| .nil <| .then <| .seq <| .seq <| .reg rfl <| .opp (P.mov .g0) rfl <| .opg (G.nilr (e := 162) .t0 Mm.m0 (by kernel_rfl) rfl) rfl fun n1 hz2 => .nil <| .then ?_
  refine .cond .t0 (fun c3 => ?_) (fun c3 => ?_)
  · have hx7 : a0 = [] := by simpa using hz2 c3
    replace h : some ([] : List api_Event) = some r := by rw [hx7] at h; simpa [grd] using h
    refine .seq <| .reg rfl <| .opp (P.asg .k) rfl <| .nil <| .then <| .ret <| .thr ?_
    cases h
    exact .lnil 162 27 <| .finw nilSl (.r1 rfl (.tmp .g0)) trivial (Ls.of (.cons .k0 .nil)) .nil
  · refine .skip <| .then <| .seq <| .reg rfl <| .opg (G.bsl0 runUnderlying91 sizeOf162 rfl) rfl fun u4 _ => .opp (P.mov .t1) rfl ?_
    obtain ⟨hb6, h⟩ := grd_eq h
    refine .opg (G.app (by_ := 240) .t1 .t0 .k0 (.inl Mm.m0) runUnderlying91 runUnderlying91 sizeOf162 typeInfo162 rfl rfl zeroValue162 rfl (one_map one_162 _) (by simpa using hb6) rfl) rfl fun u5 _ => .conseq .k0 (q := lst 162 27 u5 ((([] : List api_Event) ++ a0).map api_Event.cs)) (fun _ hh => by simpa [List.map_append] using hh) <| .opp (P.asg .t0) rfl <| .nil <| .then <| .ret ?_
    cases h
    exact .finw u5 (.r1 rfl (.tmp .g0)) trivial (Ls.of (.cons .k0 .nil)) .nil
attribute [irreducible] slices_Clone_api_Event
noncomputable def chain_Chain_Events_bx (a0 : Option chain_Chain) (a1 : Int) : Option ((List api_Event)) :=
  Option.bind (chain_Chain_is_bx a0) fun r1 => if (!r1) = true then (some ([] : List api_Event)) else (Option.bind a0 fun (y5 : chain_Chain) => grd (okS y5.events.length (some (if (y5.events.length : Int) < (if 0 > a1 then 0 else a1) then (y5.events.length : Int) else if 0 > a1 then 0 else a1)) none none) <| Option.bind (slices_Clone_api_Event (slc y5.events (if (y5.events.length : Int) < (if 0 > a1 then 0 else a1) then (y5.events.length : Int) else if 0 > a1 then 0 else a1).toNat y5.events.length)) fun r13 => some r13)
set_option maxRecDepth 20000 in
set_option maxHeartbeats 8000000 in
theorem S_chain_Chain_Events_bx (v00 : Value) (a0 : Option chain_Chain) (a1 : Int) (r : (List api_Event)) (h : chain_Chain_Events_bx a0 a1 = some r) :
    SpecF Tryz.prog 60 [v00, N a1] [bx chain_Chain.bd chain_Chain.fp v00 a0] [] (fun z : Value => True) (fun z => z) (fun z M => bx chain_Chain.bd chain_Chain.fp v00 a0 :: lst 162 27 z (r.map api_Event.cs) ::  M) (fun z M =>  M) := by
  refine .of func60 rfl ntmps60 rfl fun w0 D0 G0 => ?_
  unfold chain_Chain_Events_bx at h
  refine .seq <| .reg rfl <| .op0 (OpP.toV (P.asg .k)) rfl <| .nil <| .then <| .seq <| .seq <| .reg rfl <| .opp (P.mov .g0) rfl ?_
  obtain ⟨r1, hr2, h⟩ := bnd_eq h
  refine .opg (G.call call25 (.cons .t0 .nil) (S_chain_Chain_is_bx v00 a0 r1 hr2) (.cons .k0 .nil) .nil (fun _ _ => rfl) (fun _ _ => rfl) rfl) rfl fun _ _ => .opp (P.not .t0) rfl <| .nil <| .then <| .cond .t0 (fun c3 => ?_) (fun c3 => ?_)
  · rw [if_pos c3] at h
    refine .seq <| .reg rfl <| .opp (P.asg .k) rfl <| .nil <| .then <| .ret <| .thr ?_
    cases h
    exact .lnil 162 27 <| .finw nilSl (.r1 rfl (.tmp .g0)) trivial (Ls.of (.cons .k1 (.cons .k0 .nil))) .nil
  · rw [if_neg (ne_true_of_eq_false c3)] at h
    refine .skip <| .then <| .seq ?_
    obtain ⟨y5, hy6, h⟩ := bnd_eq h
    refine .bxo .k0 hy6 (fun _ _ _ => rfl) fun ⟨b7, u8, u9, u10⟩ hz4 => ?_
    replace hz4 : v00 = pt b7 0 := hz4
    subst hz4
    refine .draw 15 (.on 0 .pu (.on 1 .pu (.on 2 .pu (.on 4 .pu (.on 5 .pu (.on 6 .pu (.on 7 .pu (.on 8 .pu (.on 3 .ld (.on 9 .ld (.on 10 .ld (.on 11 .pu (.on 12 .pu (.on 13 .go (.on 14 .go .nl))))))))))))))) follows_mixed (.thn .body) (by kernel_rfl) <| .dpu rfl (.n rfl) (P.mov .g0) rfl rfl <| .dpu rfl (.n rfl) (P.nilc .t0) rfl rfl <| .dpu rfl (.n rfl) (P.fa .t0 fa_93_2 rfl) rfl rfl <| .dpu rfl (.n rfl) (P.mov .t2) rfl rfl <| .dpu rfl (.n rfl) (P.max2 .t0 .k) rfl rfl <| .dpu rfl (.n rfl) (P.mov .t2) rfl rfl <| .dpu rfl (.n rfl) (P.nilc .t0) rfl rfl <| .dpu rfl (.n rfl) (P.fa .t0 fa_93_2 rfl) rfl rfl <| .dld rfl (.n rfl) (V.ld (v := u10) .t2 .k0 (.one isAgg91 rfl)) (fun _ h => h) rfl rfl <| .dld rfl (.n rfl) (V.ld (v := u10) .t1 .k0 (.one isAgg91 rfl)) (fun _ h => h) rfl rfl <| .dld rfl (.n rfl) (V.lnl (n := y5.events.length) .t0 .k3 map_len runUnderlying91) (fun _ h => h) rfl rfl ?_
    refine .dpu rfl (.n rfl) (P.min2 .t2 .t0) rfl rfl ?_
    obtain ⟨hb11, h⟩ := grd_eq h
    refine .slnql .k3 fun hq12 => ?_
    simp only [List.length_map] at hq12
    refine .dpu rfl (.n rfl) (P.slp (li := (some (if (y5.events.length : Int) < (if 0 > a1 then 0 else a1) then (y5.events.length : Int) else if 0 > a1 then 0 else a1))) (hj := none) (mk := none) .t1 (.some .t0) .none .none hq12 runUnderlying91 sizeOf162 (by simpa using hb11)) rfl rfl ?_
    obtain ⟨r13, hr14, h⟩ := bnd_eq h
    refine .dgo rfl (.n rfl) (G.calll call109 (.cons .t0 .nil) (S_slices_Clone_api_Event (slv u10 27 (some (if (y5.events.length : Int) < (if 0 > a1 then 0 else a1) then (y5.events.length : Int) else if 0 > a1 then 0 else a1)) none none) (slc y5.events (if (y5.events.length : Int) < (if 0 > a1 then 0 else a1) then (y5.events.length : Int) else if 0 > a1 then 0 else a1).toNat y5.events.length) r13 hr14) .nil (.imp (List.mem_append_right _ Mm.m3) (fun _ h_ => by have h2_ := rows_slv (by rw [List.length_map]; exact hb11) (lst_rows h_); rw [slc_map, List.length_map] at h2_; exact h2_) .nil) (fun _ _ => rfl) rfl) (.inr fun _ _ _ h => (h.imp (Ls.of (.cons .k1 (.cons .k1 (.cons .k1 (.cons .k1 .nil)))))).ro Rs.nil) fun u15 _ => .dgo rfl (.n rfl) (OpV.g (OpP.toV (P.asg .t0)) rfl) (.inr fun _ _ _ h => (h.imp (Ls.of (.cons .k1 (.cons .k1 (.cons .k1 (.cons .k1 .nil)))))).ro Rs.nil) fun _ _ => .dnil <| .then <| .ret ?_
    cases h
    exact .bxc chain_Chain.bd chain_Chain.fp (b7, u8, u9, u10) y5 (z := (pt b7 0)) rfl (.cons .k1 (.cons .k1 (.cons .k1 (.cons .k1 .nil)))) <| .conseq .k0 (q := bx chain_Chain.bd chain_Chain.fp (pt b7 0) a0) (fun _ h_ => by rw [hy6]; exact h_) <| .finw u15 (.r1 rfl (.tmp .g0)) trivial (Ls.of (.cons .k0 (.cons .k0 .nil))) .nil
attribute [irreducible] chain_Chain_Events_bx
noncomputable def escrow_Rise (a0 : escrow_State) (a1 : Int) : Option (escrow_State) :=
  Option.bind (slices_Clone_escrow_Lock a0.Locks) fun r3 => some ((⟨a0.Side, IntKind.i64.wrap (a0.Time + (if (if 0 > (IntKind.i64.wrap (1099511627776 - a0.Time)) then 0 else IntKind.i64.wrap (1099511627776 - a0.Time)) < (if 0 > a1 then 0 else a1) then if 0 > (IntKind.i64.wrap (1099511627776 - a0.Time)) then 0 else IntKind.i64.wrap (1099511627776 - a0.Time) else if 0 > a1 then 0 else a1)), a0.Purse, a0.Vault, a0.Nonces, a0.Held, a0.Burnt, r3⟩ : escrow_State))
set_option maxRecDepth 20000 in
set_option maxHeartbeats 8000000 in
theorem S_escrow_Rise (a0 : escrow_State) (z00a : Value) (a1 : Int) (r : escrow_State) (h : escrow_Rise a0 a1 = some r) :
    SpecF Tryz.prog 112 [Ag (escrow_State.cs a0 z00a), N a1] [] [rows 3 z00a (a0.Locks.map escrow_Lock.cs)] (fun z : Value => True) (fun z => Ag (escrow_State.cs r z)) (fun z M => lst 241 3 z (r.Locks.map escrow_Lock.cs) ::  M) (fun z M =>  M) := by
  refine .of func112 rfl ntmps112 rfl fun w0 D0 G0 => ?_
  unfold escrow_Rise at h
  refine .seq <| .reg rfl <| .opx (X.box (cs := (escrow_State.cs a0 z00a)) .t0 rfl) rfl fun b1 => .opx (X.alc (cs := (escrow_State.cs ⟨0, 0, ⟨⟨⟨0, 0, 0, 0⟩, ⟨0, 0, 0, 0⟩⟩, ⟨⟨0, 0, 0, 0⟩, ⟨0, 0, 0, 0⟩⟩, ⟨⟨0, 0, 0, 0⟩, ⟨0, 0, 0, 0⟩⟩, ⟨⟨0, 0, 0, 0⟩, ⟨0, 0, 0, 0⟩⟩, ⟨⟨0, 0, 0, 0⟩, ⟨0, 0, 0, 0⟩⟩, ⟨⟨0, 0, 0, 0⟩, ⟨0, 0, 0, 0⟩⟩, ⟨⟨0, 0, 0, 0⟩, ⟨0, 0, 0, 0⟩⟩, ⟨⟨0, 0, 0, 0⟩, ⟨0, 0, 0, 0⟩⟩⟩, ⟨⟨⟨0, 0, 0, 0⟩, ⟨0, 0, 0, 0⟩⟩, ⟨⟨0, 0, 0, 0⟩, ⟨0, 0, 0, 0⟩⟩, ⟨⟨0, 0, 0, 0⟩, ⟨0, 0, 0, 0⟩⟩, ⟨⟨0, 0, 0, 0⟩, ⟨0, 0, 0, 0⟩⟩, ⟨⟨0, 0, 0, 0⟩, ⟨0, 0, 0, 0⟩⟩, ⟨⟨0, 0, 0, 0⟩, ⟨0, 0, 0, 0⟩⟩, ⟨⟨0, 0, 0, 0⟩, ⟨0, 0, 0, 0⟩⟩, ⟨⟨0, 0, 0, 0⟩, ⟨0, 0, 0, 0⟩⟩⟩, ⟨0, 0, 0, 0, 0, 0, 0, 0⟩, ⟨⟨0, 0, 0, 0⟩, ⟨0, 0, 0, 0⟩⟩, ⟨0, 0, 0, 0⟩, []⟩ nilSl)) zeroValue90 rfl) rfl fun b2 => .nil <| .then <| .seq <| .reg rfl <| .opp (P.fa .g1 fa_90_1 rfl) rfl <| .op (V.ld (v := N a0.Time) .t0 .k1 (.one isAgg3 rfl)) rfl <| .opp (P.mov .t3) rfl <| .opp (P.max2 .t0 .k) rfl ?_
  refine .opp (P.fa .g3 fa_90_1 rfl) rfl <| .op (V.ld (v := N a0.Time) .t0 .k1 (.one isAgg3 rfl)) rfl <| .opp (P.bin .k .t0 .sub) rfl <| .opp (P.max2 .t0 .k) rfl <| .opp (P.min2 .t1 .t0) rfl <| .opp (P.bin .t1 .t0 .add) rfl <| .opp (P.fa .g2 fa_90_1 rfl) rfl <| .opg (G.str .t1 .t0 .k1 (.mk (cs' := (escrow_State.cs ⟨a0.Side, IntKind.i64.wrap (a0.Time + (if (if 0 > (IntKind.i64.wrap (1099511627776 - a0.Time)) then 0 else IntKind.i64.wrap (1099511627776 - a0.Time)) < (if 0 > a1 then 0 else a1) then if 0 > (IntKind.i64.wrap (1099511627776 - a0.Time)) then 0 else IntKind.i64.wrap (1099511627776 - a0.Time) else if 0 > a1 then 0 else a1)), a0.Purse, a0.Vault, a0.Nonces, a0.Held, a0.Burnt, a0.Locks⟩ z00a)) sizeOf3 rfl rfl rfl rfl)) rfl fun _ _ => .nil <| .then <| .seq <| .reg rfl ?_
  refine .opp (P.fa .g1 fa_90_7 rfl) rfl <| .op (V.ld (v := z00a) .t0 .k0 (.one isAgg88 rfl)) rfl ?_
  obtain ⟨r3, hr4, h⟩ := bnd_eq h
  refine .opg (G.call call130 (.cons .t0 .nil) (S_slices_Clone_escrow_Lock z00a a0.Locks r3 hr4) .nil (.cons Mm.m0 .nil) (fun _ _ => rfl) (fun _ _ => rfl) rfl) rfl fun u5 _ => .opp (P.fa .g2 fa_90_7 rfl) rfl <| .onel .k0 fun ho6 => .opg (G.str .t1 .t0 .k1 (.mk1 (cs' := (escrow_State.cs ⟨a0.Side, IntKind.i64.wrap (a0.Time + (if (if 0 > (IntKind.i64.wrap (1099511627776 - a0.Time)) then 0 else IntKind.i64.wrap (1099511627776 - a0.Time)) < (if 0 > a1 then 0 else a1) then if 0 > (IntKind.i64.wrap (1099511627776 - a0.Time)) then 0 else IntKind.i64.wrap (1099511627776 - a0.Time) else if 0 > a1 then 0 else a1)), a0.Purse, a0.Vault, a0.Nonces, a0.Held, a0.Burnt, []⟩ u5)) sizeOf88 rfl ho6 rfl rfl)) rfl fun _ _ => .nil <| .then <| .seq <| .reg rfl <| .op (V.ld (v := Ag (escrow_State.cs ⟨a0.Side, IntKind.i64.wrap (a0.Time + (if (if 0 > (IntKind.i64.wrap (1099511627776 - a0.Time)) then 0 else IntKind.i64.wrap (1099511627776 - a0.Time)) < (if 0 > a1 then 0 else a1) then if 0 > (IntKind.i64.wrap (1099511627776 - a0.Time)) then 0 else IntKind.i64.wrap (1099511627776 - a0.Time) else if 0 > a1 then 0 else a1)), a0.Purse, a0.Vault, a0.Nonces, a0.Held, a0.Burnt, []⟩ u5)) .t1 .k0 (.agg isAgg90 sizeOf90 rfl rfl)) rfl <| .onel .k1 fun ho7 => .opg (G.str .t0 .g0 .k2 (.mk (cs' := (escrow_State.cs ⟨a0.Side, IntKind.i64.wrap (a0.Time + (if (if 0 > (IntKind.i64.wrap (1099511627776 - a0.Time)) then 0 else IntKind.i64.wrap (1099511627776 - a0.Time)) < (if 0 > a1 then 0 else a1) then if 0 > (IntKind.i64.wrap (1099511627776 - a0.Time)) then 0 else IntKind.i64.wrap (1099511627776 - a0.Time) else if 0 > a1 then 0 else a1)), a0.Purse, a0.Vault, a0.Nonces, a0.Held, a0.Burnt, []⟩ u5)) sizeOf90 rfl (onez_90 _ ho7) rfl rfl)) rfl fun _ _ => .nil ?_
  refine .then <| .ret ?_
  cases h
  exact .finw u5 (.r1 rfl (.cell .g0 .k0 (.agg isAgg90 sizeOf90 rfl rfl))) trivial (Ls.of (.cons .k2 .nil)) .nil
attribute [irreducible] escrow_Rise
end Go.Sl
