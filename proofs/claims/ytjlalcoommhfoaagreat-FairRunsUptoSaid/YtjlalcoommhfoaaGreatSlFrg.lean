/- Walked code of the program, its pure functions and their contracts. -/
import Derived.Test.YtjlalcoommhfoaaGreatSlFrf
set_option linter.unusedVariables false
set_option linter.unusedSimpArgs false
namespace Go.Sl
open Go.Proofs Go.Proofs.Tryz

noncomputable def fair_Run_bx (a0 : Option world_World) (a1 : Int) : Option ((Option world_World)) :=
  Option.bind (loopW (fun (s1 : Int × (Option world_World)) => if (decide (s1.1 < (if 200 < (if 0 > a1 then 0 else a1) then 200 else if 0 > a1 then 0 else a1))) = true then (Option.bind (world_World_Step_bx s1.2 (⟨13, 0, 0, 0, []⟩ : api_Step)) fun r11 => some (.nx ((IntKind.i64.wrap (s1.1 + 1), r11)))) else (some (.br (s1.1, s1.2)))) (0, a0)) fun o3 => Lo.on o3 fun (s1 : Int × (Option world_World)) => some s1.2
set_option maxRecDepth 20000 in
set_option maxHeartbeats 8000000 in
theorem S_fair_Run_bx (v00 : Value) (a0 : Option world_World) (a1 : Int) (r : (Option world_World)) (h : fair_Run_bx a0 a1 = some r) :
    SpecF Tryz.prog 7 [v00, N a1] [bx world_World.bd world_World.fp v00 a0] [] (fun z : Unit => True) (fun z => Tu []) (fun z M => bx world_World.bd world_World.fp v00 r ::  M) (fun z M =>  M) := by
  refine .of func7 rfl ntmps7 rfl fun w0 D0 G0 => ?_
  unfold fair_Run_bx at h
  refine .seq <| .reg rfl <| .opp (P.mov .t1) rfl <| .opp (P.max2 .t0 .k) rfl <| .opp (P.min2 .t0 .k) rfl <| .opp (P.mov .k) rfl <| .nil <| .then <| .block ?_
  obtain ⟨o3, ho4, h⟩ := bnd_eq h
  refine .loopW (γ := Unit) (fun (s1 : Int × (Option world_World)) z2 => [(7, N s1.1), (6, N (if 200 < (if 0 > a1 then 0 else a1) then 200 else if 0 > a1 then 0 else a1)), (0, v00)]) (fun (s1 : Int × (Option world_World)) z2 => [bx world_World.bd world_World.fp v00 s1.2]) (fun (s1 : Int × (Option world_World)) z2 => []) () ho4 (.cons Mm.m0 (.cons Mm.m1 (.cons Mm.m2 .nil))) (.of (.cons .k0 .nil)) .nil (fun n9 s1 z2 hr7 => ?_)
  obtain ⟨ct8, hc5, hn6⟩ := loopK_at hr7
  refine .seq <| .reg rfl <| .opp (P.bin .g0 .g1 .lss) rfl <| .nil <| .then <| .seq <| .cond .t0 (fun c10 => ?_) (fun c10 => ?_)
  · rw [if_pos c10] at hc5
    refine .skip <| .then <| .seq <| .block <| .reg rfl <| .opp (P.mov .g2) rfl <| .opp (P.bld (v := Ag (api_Step.cs ⟨13, 0, 0, 0, []⟩ nilSl)) (.cons .k .nil) (bld_run zeroValue72 runUnderlying72 pl_72 (by kernel_rfl))) rfl <| .rnil0 1 ?_
    obtain ⟨r11, hr12, hc5⟩ := bnd_eq hc5
    refine .opg (G.call call22 (.cons .t1 (.cons .t0 .nil)) (S_world_World_Step_bx v00 s1.2 (⟨13, 0, 0, 0, []⟩ : api_Step) nilSl r11 hr12) (.cons .k0 .nil) (.cons Mm.m0 .nil) (fun _ _ => rfl) (fun _ _ => rfl) rfl) rfl fun _ _ => .drop .k0 <| .nil <| .inn <| .then <| .reg rfl <| .opp (P.bin .g0 .k .add) rfl <| .drop .k1 <| .opp (P.mov .t0) rfl <| .nil ?_
    cases hc5
    obtain ⟨m13, hm14, hn6⟩ := hn6
    exact .rdW ((IntKind.i64.wrap (s1.1 + 1), r11)) () hm14 hn6 (.cons Mm.m0 (.cons Mm.m1 (.cons Mm.m2 .nil))) (.of (.cons .k0 .nil)) .nil
  · rw [if_neg (ne_true_of_eq_false c10)] at hc5
    refine .exit <| .thx ?_
    cases hc5
    refine .told (γ := Unit) h hn6 (fun (s1 : Int × (Option world_World)) _ => [(7, N s1.1), (6, N (if 200 < (if 0 > a1 then 0 else a1) then 200 else if 0 > a1 then 0 else a1)), (0, v00)]) (fun (s1 : Int × (Option world_World)) _ => [bx world_World.bd world_World.fp v00 s1.2]) (fun (s1 : Int × (Option world_World)) _ => []) () (.cons Mm.m0 (.cons Mm.m1 (.cons Mm.m2 .nil))) (.of (.cons .k0 .nil)) .nil (fun s1 _ h' => ?_)
    replace h := h'
    refine .thx <| .inb ?_
    cases h
    exact .finwn () (.r0 rfl) trivial (Ls.of (.cons .k0 .nil)) .nil
attribute [irreducible] fair_Run_bx
noncomputable def world_World_Now_bx (a0 : Option world_World) : Option (Int) :=
  Option.bind (world_World_is_bx a0) fun r1 => if (!r1) = true then (some 0) else (Option.bind a0 fun (y5 : world_World) => some y5.now)
set_option maxRecDepth 20000 in
set_option maxHeartbeats 8000000 in
theorem S_world_World_Now_bx (v00 : Value) (a0 : Option world_World) (r : Int) (h : world_World_Now_bx a0 = some r) :
    SpecF Tryz.prog 8 [v00] [bx world_World.bd world_World.fp v00 a0] [] (fun z : Unit => True) (fun z => N r) (fun z M => bx world_World.bd world_World.fp v00 a0 ::  M) (fun z M =>  M) := by
  refine .of func8 rfl ntmps8 rfl fun w0 D0 G0 => ?_
  unfold world_World_Now_bx at h
  refine .seq <| .reg rfl <| .op0 (OpP.toV (P.asg .k)) rfl <| .nil <| .then <| .seq <| .seq <| .reg rfl <| .opp (P.mov .g0) rfl ?_
  obtain ⟨r1, hr2, h⟩ := bnd_eq h
  refine .opg (G.call call23 (.cons .t0 .nil) (S_world_World_is_bx v00 a0 r1 hr2) (.cons .k0 .nil) .nil (fun _ _ => rfl) (fun _ _ => rfl) rfl) rfl fun _ _ => .opp (P.not .t0) rfl <| .nil <| .then <| .cond .t0 (fun c3 => ?_) (fun c3 => ?_)
  · rw [if_pos c3] at h
    refine .seq <| .reg rfl <| .opp (P.asg .k) rfl <| .nil <| .then <| .ret <| .thr ?_
    cases h
    exact .finw () (.r1 rfl (.tmp .g0)) trivial (Ls.of (.cons .k0 .nil)) .nil
  · rw [if_neg (ne_true_of_eq_false c3)] at h
    refine .skip <| .then <| .seq <| .reg rfl <| .opp (P.mov .t0) rfl ?_
    obtain ⟨y5, hy6, h⟩ := bnd_eq h
    refine .bxo .k0 hy6 (fun _ _ _ => rfl) fun ⟨b7, u8, u9, u10, u11, u12, u13, u14, u15, u16, u17, u18⟩ hz4 => ?_
    replace hz4 : v00 = pt b7 0 := hz4
    subst hz4
    refine .opp (P.nilc .t0) rfl <| .opp (P.fa .t0 fa_58_6 rfl) rfl <| .op (V.ld (v := N y5.now) .t0 .k0 (.one isAgg3 rfl)) rfl <| .opp (P.asg .t0) rfl <| .nil <| .then <| .ret ?_
    cases h
    exact .bxc world_World.bd world_World.fp (b7, u8, u9, u10, u11, u12, u13, u14, u15, u16, u17, u18) y5 (z := (pt b7 0)) rfl (.cons .k0 (.cons .k0 (.cons .k0 (.cons .k0 (.cons .k0 (.cons .k0 (.cons .k0 (.cons .k0 (.cons .k0 (.cons .k0 (.cons .k0 (.cons .k0 .nil)))))))))))) <| .conseq .k0 (q := bx world_World.bd world_World.fp (pt b7 0) a0) (fun _ h_ => by rw [hy6]; exact h_) <| .finw () (.r1 rfl (.tmp .g0)) trivial (Ls.of (.cons .k0 .nil)) .nil
attribute [irreducible] world_World_Now_bx
noncomputable def narrowslaw33_alive  : Option (Bool) :=
  Option.bind (world_New (⟨1, 0, 31, 9000⟩ : world_Setup)) fun r1 => Option.bind (fair_Run_bx r1.1 1) fun r4 => Option.bind (if (decide (r1.2 = 0)) = true then (Option.bind (world_World_Now_bx r4) fun r10 => some (decide (r10 = 1))) else (some false)) fun (y6 : Bool) => some y6
set_option maxRecDepth 20000 in
set_option maxHeartbeats 8000000 in
theorem S_narrowslaw33_alive  (r : Bool) (h : narrowslaw33_alive  = some r) :
    SpecF Tryz.prog 5 [] [] [] (fun z : Unit => True) (fun z => Bo r) (fun z M =>  M) (fun z M =>  M) := by
  refine .of func5 rfl ntmps5 rfl fun w0 D0 G0 => ?_
  unfold narrowslaw33_alive at h
  refine .seq <| .reg rfl <| .op0 (OpP.toV (P.asg .k)) rfl <| .nil <| .then <| .seq <| .reg rfl <| .opp (P.bld (v := Ag (world_Setup.cs ⟨1, 0, 31, 9000⟩)) (.cons .k (.cons .k (.cons .k .nil))) (bld_run zeroValue23 runUnderlying23 pl_23 (by kernel_rfl))) rfl ?_
  obtain ⟨r1, hr2, h⟩ := bnd_eq h
  refine .opg (G.call call6 (.cons .t0 .nil) (S_world_New (⟨1, 0, 31, 9000⟩ : world_Setup) r1 hr2) .nil .nil (fun _ _ => rfl) (fun _ _ => rfl) rfl) rfl fun u3 _ => .opp (P.mov .t0) rfl <| .opp (P.ext (v := u3) .g0 rfl) rfl <| .opp (P.ext (v := N r1.2) .t1 rfl) rfl <| .opp (P.asg .t1) rfl <| .opp (P.asg .t1) rfl <| .nil <| .then <| .seq <| .reg rfl <| .opp (P.mov .g1) rfl ?_
  obtain ⟨r4, hr5, h⟩ := bnd_eq h
  refine .opg (G.call call7 (.cons .t0 (.cons .k .nil)) (S_fair_Run_bx u3 r1.1 1 r4 hr5) (.cons .k0 .nil) .nil (fun _ _ => rfl) (fun _ _ => rfl) rfl) rfl fun _ _ => .drop .k0 <| .nil <| .then ?_
  obtain ⟨y6, hj8, h⟩ := bnd_eq h
  refine .cutx (γ := Unit) (E1 := fun z7 => [(0, Bo y6)]) (L1 := fun z7 => []) (R1 := fun z7 => []) ?_ (fun z7 => ?_)
  · clear h
    refine .reg rfl <| .opp (P.mov .t0) rfl <| .opp (P.bin .t0 .k .eql) rfl <| .opp (P.mov .t0) rfl <| .split .k0 (fun c9 => ?_) (fun c9 => ?_)
    · rw [if_pos c9] at hj8
      refine .gyes rfl .g0 <| .opp (P.mov .t1) rfl <| .gyes rfl .g1 ?_
      obtain ⟨r10, hr11, hj8⟩ := bnd_eq hj8
      refine .opg (G.call call8 (.cons .t0 .nil) (S_world_World_Now_bx u3 r4 r10 hr11) (.cons .k0 .nil) .nil (fun _ _ => rfl) (fun _ _ => rfl) rfl) rfl fun _ _ => .gyes rfl .g1 <| .opp (P.bin .t0 .k .eql) rfl <| .opp (P.pickT .t1 .t0) rfl <| .opp (P.asg .t0) rfl <| .nil ?_
      cases hj8
      exact .stj () (.cons Mm.m0 .nil) (.of .nil) .nil
    · rw [if_neg (ne_true_of_eq_false c9)] at hj8
      refine .gno rfl .g0 rfl rfl <| .gno rfl .g0 rfl rfl <| .gno rfl .g0 rfl rfl <| .opp (P.pickF .t0 .k) rfl <| .opp (P.asg .t0) rfl <| .nil ?_
      cases hj8
      exact .stj () (.cons Mm.m0 .nil) (.of .nil) .nil
  · clear hj8
    refine .ret ?_
    cases h
    exact .finw () (.r1 rfl (.tmp .g0)) trivial (Ls.of .nil) .nil
attribute [irreducible] narrowslaw33_alive
noncomputable def world_World_is (a0 : world_World) : Bool :=
  a0.since.isSome
set_option maxRecDepth 20000 in
set_option maxHeartbeats 8000000 in
theorem S_world_World_is (b00 : Nat) (a0 : world_World) (z00a z00b z00c z00d z00e z00f z00g z00h z00i z00j z00k : Value) (r : Bool) (h : world_World_is a0 = r) :
    SpecF Tryz.prog 23 [pt b00 0] [blk b00 58 (world_World.cs a0 z00a z00b z00c z00d z00e z00f z00g z00h z00i z00j z00k), bx chain_Chain.bd chain_Chain.fp z00a a0.sides.a0, bx chain_Chain.bd chain_Chain.fp z00b a0.sides.a1, bx client_Client.bd client_Client.fp z00c a0.clients.a0, bx client_Client.bd client_Client.fp z00d a0.clients.a1, bx router_Router.bd router_Router.fp z00e a0.routers.a0, bx router_Router.bd router_Router.fp z00f a0.routers.a1, bx relay_Relay.bd relay_Relay.fp z00g a0.relay, mb (fun (x : world_place) => Ag x.cs) (fun (x : Int) => N x) z00h a0.since, mb (fun (x : world_word) => Ag x.cs) (fun (x : Bool) => Bo x) z00i a0.told, mb (fun (x : ByteArray) => Value.string x) (fun (x : api_Inv) => Ag x.cs) z00j a0.keys, mb (fun (x : ByteArray) => Value.string x) (fun (x : world_data) => Ag x.cs) z00k a0.digests] [] (fun z : Unit => True) (fun z => Bo r) (fun z M => blk b00 58 (world_World.cs a0 z00a z00b z00c z00d z00e z00f z00g z00h z00i z00j z00k) :: bx chain_Chain.bd chain_Chain.fp z00a a0.sides.a0 :: bx chain_Chain.bd chain_Chain.fp z00b a0.sides.a1 :: bx client_Client.bd client_Client.fp z00c a0.clients.a0 :: bx client_Client.bd client_Client.fp z00d a0.clients.a1 :: bx router_Router.bd router_Router.fp z00e a0.routers.a0 :: bx router_Router.bd router_Router.fp z00f a0.routers.a1 :: bx relay_Relay.bd relay_Relay.fp z00g a0.relay :: mb (fun (x : world_place) => Ag x.cs) (fun (x : Int) => N x) z00h a0.since :: mb (fun (x : world_word) => Ag x.cs) (fun (x : Bool) => Bo x) z00i a0.told :: mb (fun (x : ByteArray) => Value.string x) (fun (x : api_Inv) => Ag x.cs) z00j a0.keys :: mb (fun (x : ByteArray) => Value.string x) (fun (x : world_data) => Ag x.cs) z00k a0.digests ::  M) (fun z M =>  M) := by
  refine .of func23 rfl ntmps23 rfl fun w0 D0 G0 => ?_
  unfold world_World_is at h
  refine .seq <| .reg rfl <| .op0 (OpP.toV (P.asg .k)) rfl <| .nil <| .then <| .seq <| .reg rfl <| .opp (P.mov .g0) rfl <| .opp (P.bin .t0 .k (.ptr_neq (e := 58) (by kernel_rfl))) rfl <| .opp (P.mov .t0) rfl <| .gyes rfl .g0 <| .opp (P.mov .t1) rfl ?_
  refine .gyes rfl .g1 <| .opp (P.nilc .t0) rfl <| .gyes rfl .g1 <| .opp (P.fa .t0 fa_58_9 rfl) rfl <| .gyes rfl .g1 <| .op (V.ld (v := z00h) .t0 .k0 (.one isAgg44 rfl)) rfl <| .gyes rfl .g1 <| .fact .k8 (fun _ hh => mb_nil (P := Tryz.prog) (t := 44) (k := 167) (e := 3) (by kernel_rfl) hh) fun hq1 => .opp (P.bin .t0 .k hq1.2) rfl <| .opp (P.pickT .t1 .t0) rfl <| .opp (P.asg .t0) rfl <| .nil ?_
  refine .then <| .ret ?_
  subst h
  exact .finw () (.r1 rfl (.tmp .g0)) trivial (Ls.of (.cons .k0 (.cons .k0 (.cons .k0 (.cons .k0 (.cons .k0 (.cons .k0 (.cons .k0 (.cons .k0 (.cons .k0 (.cons .k0 (.cons .k0 (.cons .k0 .nil))))))))))))) .nil
attribute [irreducible] world_World_is
noncomputable def world_within (a0 : Int) (a1 : Int) : Bool :=
  thn (if (decide (a0 ≥ 0)) = true then (decide (a0 < a1)) else false) fun (y1 : Bool) => y1
set_option maxRecDepth 20000 in
set_option maxHeartbeats 8000000 in
theorem S_world_within (a0 : Int) (a1 : Int) (r : Bool) (h : world_within a0 a1 = r) :
    SpecF Tryz.prog 24 [N a0, N a1] [] [] (fun z : Unit => True) (fun z => Bo r) (fun z M =>  M) (fun z M =>  M) := by
  refine .of func24 rfl ntmps24 rfl fun w0 D0 G0 => ?_
  unfold world_within at h
  refine .seq <| .reg rfl <| .op0 (OpP.toV (P.asg .k)) rfl <| .nil <| .then ?_
  obtain ⟨y1, hj3, h⟩ := thn_eq h
  refine .cutx (γ := Unit) (E1 := fun z2 => [(4, Bo y1)]) (L1 := fun z2 => []) (R1 := fun z2 => []) ?_ (fun z2 => ?_)
  · clear h
    refine .reg rfl <| .opp (P.mov .g0) rfl <| .opp (P.bin .t0 .k .geq) rfl <| .opp (P.mov .t0) rfl <| .split .k0 (fun c4 => ?_) (fun c4 => ?_)
    · rw [if_pos c4] at hj3
      refine .gyes rfl .g0 <| .opp (P.mov .t1) rfl <| .gyes rfl .g1 <| .opp (P.mov .t2) rfl <| .gyes rfl .g2 <| .opp (P.bin .t1 .t0 .lss) rfl <| .opp (P.pickT .t1 .t0) rfl <| .opp (P.asg .t0) rfl <| .nil ?_
      subst hj3
      exact .stj () (.cons Mm.m0 .nil) (.of .nil) .nil
    · rw [if_neg (ne_true_of_eq_false c4)] at hj3
      refine .gno rfl .g0 rfl rfl <| .gno rfl .g0 rfl rfl <| .gno rfl .g0 rfl rfl <| .opp (P.pickF .t0 .k) rfl <| .opp (P.asg .t0) rfl <| .nil ?_
      subst hj3
      exact .stj () (.cons Mm.m0 .nil) (.of .nil) .nil
  · clear hj3
    refine .ret ?_
    subst h
    exact .finw () (.r1 rfl (.tmp .g0)) trivial (Ls.of .nil) .nil
attribute [irreducible] world_within
noncomputable def world_World_Side_k0 (a0 : world_World) : Nat :=
  thn (if (!(world_World_is a0)) = true then true else (!(world_within 0 2))) fun (y1 : Bool) => if y1 = true then 0 else 1
set_option maxRecDepth 20000 in
set_option maxHeartbeats 8000000 in
theorem S_world_World_Side_k0 (b00 : Nat) (a0 : world_World) (z00a z00b z00c z00d z00e z00f z00g z00h z00i z00j z00k : Value) (r : Nat) (h : world_World_Side_k0 a0 = r) :
    SpecF Tryz.prog 9 [pt b00 0, N 0] [blk b00 58 (world_World.cs a0 z00a z00b z00c z00d z00e z00f z00g z00h z00i z00j z00k), bx chain_Chain.bd chain_Chain.fp z00a a0.sides.a0, bx chain_Chain.bd chain_Chain.fp z00b a0.sides.a1, bx client_Client.bd client_Client.fp z00c a0.clients.a0, bx client_Client.bd client_Client.fp z00d a0.clients.a1, bx router_Router.bd router_Router.fp z00e a0.routers.a0, bx router_Router.bd router_Router.fp z00f a0.routers.a1, bx relay_Relay.bd relay_Relay.fp z00g a0.relay, mb (fun (x : world_place) => Ag x.cs) (fun (x : Int) => N x) z00h a0.since, mb (fun (x : world_word) => Ag x.cs) (fun (x : Bool) => Bo x) z00i a0.told, mb (fun (x : ByteArray) => Value.string x) (fun (x : api_Inv) => Ag x.cs) z00j a0.keys, mb (fun (x : ByteArray) => Value.string x) (fun (x : world_data) => Ag x.cs) z00k a0.digests] [] (fun z : Unit => True) (fun z => pk r 0 [nilp, z00a]) (fun z M => blk b00 58 (world_World.cs a0 z00a z00b z00c z00d z00e z00f z00g z00h z00i z00j z00k) :: bx chain_Chain.bd chain_Chain.fp z00a a0.sides.a0 :: bx chain_Chain.bd chain_Chain.fp z00b a0.sides.a1 :: bx client_Client.bd client_Client.fp z00c a0.clients.a0 :: bx client_Client.bd client_Client.fp z00d a0.clients.a1 :: bx router_Router.bd router_Router.fp z00e a0.routers.a0 :: bx router_Router.bd router_Router.fp z00f a0.routers.a1 :: bx relay_Relay.bd relay_Relay.fp z00g a0.relay :: mb (fun (x : world_place) => Ag x.cs) (fun (x : Int) => N x) z00h a0.since :: mb (fun (x : world_word) => Ag x.cs) (fun (x : Bool) => Bo x) z00i a0.told :: mb (fun (x : ByteArray) => Value.string x) (fun (x : api_Inv) => Ag x.cs) z00j a0.keys :: mb (fun (x : ByteArray) => Value.string x) (fun (x : world_data) => Ag x.cs) z00k a0.digests ::  M) (fun z M =>  M) := by
  refine .of func9 rfl ntmps9 rfl fun w0 D0 G0 => ?_
  unfold world_World_Side_k0 at h
  refine .seq <| .reg rfl <| .op0 (OpP.toV (P.asg .k)) rfl <| .nil <| .then <| .seq ?_
  obtain ⟨y1, hj3, h⟩ := thn_eq h
  refine .cutx (γ := Unit) (E1 := fun z2 => [(12, Bo y1), (0, pt b00 0), (1, N 0)]) (L1 := fun z2 => [blk b00 58 (world_World.cs a0 z00a z00b z00c z00d z00e z00f z00g z00h z00i z00j z00k), bx chain_Chain.bd chain_Chain.fp z00a a0.sides.a0, bx chain_Chain.bd chain_Chain.fp z00b a0.sides.a1, bx client_Client.bd client_Client.fp z00c a0.clients.a0, bx client_Client.bd client_Client.fp z00d a0.clients.a1, bx router_Router.bd router_Router.fp z00e a0.routers.a0, bx router_Router.bd router_Router.fp z00f a0.routers.a1, bx relay_Relay.bd relay_Relay.fp z00g a0.relay, mb (fun (x : world_place) => Ag x.cs) (fun (x : Int) => N x) z00h a0.since, mb (fun (x : world_word) => Ag x.cs) (fun (x : Bool) => Bo x) z00i a0.told, mb (fun (x : ByteArray) => Value.string x) (fun (x : api_Inv) => Ag x.cs) z00j a0.keys, mb (fun (x : ByteArray) => Value.string x) (fun (x : world_data) => Ag x.cs) z00k a0.digests]) (R1 := fun z2 => []) ?_ (fun z2 => ?_)
  · clear h
    refine .reg rfl <| .opp (P.mov .g0) rfl <| .opg (G.call call23 (.cons .t0 .nil) (S_world_World_is b00 a0 z00a z00b z00c z00d z00e z00f z00g z00h z00i z00j z00k _ rfl) (.cons .k0 (.cons .k0 (.cons .k0 (.cons .k0 (.cons .k0 (.cons .k0 (.cons .k0 (.cons .k0 (.cons .k0 (.cons .k0 (.cons .k0 (.cons .k0 .nil)))))))))))) .nil (fun _ _ => rfl) (fun _ _ => rfl) rfl) rfl fun _ _ => .opp (P.not .t0) rfl <| .opp (P.mov .t0) rfl <| .split .k0 (fun c4 => ?_) (fun c4 => ?_)
    · rw [if_pos c4] at hj3
      refine .gno rfl .g0 rfl rfl <| .gno rfl .g0 rfl rfl <| .gno rfl .g0 rfl rfl <| .opp (P.pickT .t0 .k) rfl <| .nil ?_
      subst hj3
      exact .stj () (.cons Mm.m0 (.cons Mm.m1 (.cons Mm.m2 .nil))) (.of (.cons .k0 (.cons .k0 (.cons .k0 (.cons .k0 (.cons .k0 (.cons .k0 (.cons .k0 (.cons .k0 (.cons .k0 (.cons .k0 (.cons .k0 (.cons .k0 .nil))))))))))))) .nil
    · rw [if_neg (ne_true_of_eq_false c4)] at hj3
      refine .gyes rfl .g0 <| .opp (P.mov .g2) rfl <| .gyes rfl .g1 <| .opg (G.call call24 (.cons .t0 (.cons .k .nil)) (S_world_within 0 2 _ rfl) .nil .nil (fun _ _ => rfl) (fun _ _ => rfl) rfl) rfl fun _ _ => .gyes rfl .g1 <| .opp (P.not .t0) rfl <| .opp (P.pickF .t1 .t0) rfl <| .nil ?_
      subst hj3
      exact .stj () (.cons Mm.m0 (.cons Mm.m1 (.cons Mm.m2 .nil))) (.of (.cons .k0 (.cons .k0 (.cons .k0 (.cons .k0 (.cons .k0 (.cons .k0 (.cons .k0 (.cons .k0 (.cons .k0 (.cons .k0 (.cons .k0 (.cons .k0 .nil))))))))))))) .nil
  · clear hj3
    refine .cond .t0 (fun c5 => ?_) (fun c5 => ?_)
    · rw [if_pos c5] at h
      refine .seq <| .reg rfl <| .opp (P.asg .k) rfl <| .nil <| .then <| .ret <| .thr ?_
      subst h
      exact .finw () (.r1 rfl (.tmp .g0)) trivial (Ls.of (.cons .k0 (.cons .k0 (.cons .k0 (.cons .k0 (.cons .k0 (.cons .k0 (.cons .k0 (.cons .k0 (.cons .k0 (.cons .k0 (.cons .k0 (.cons .k0 .nil))))))))))))) .nil
    · rw [if_neg (ne_true_of_eq_false c5)] at h
      refine .skip <| .then <| .seq <| .reg rfl <| .opp (P.mov .t0) rfl <| .opp (P.mov .t1) rfl <| .opp (P.nilc .t1) rfl <| .opp (P.fa .t0 fa_58_1 rfl) rfl <| .opp (P.iac (i := 0) .t1 rfl .t0 runUnderlying48 sizeOf32 rfl rfl) rfl <| .op (V.ld (v := z00a) .t0 .k0 (.one isAgg32 rfl)) rfl <| .opp (P.asg .t0) rfl <| .nil ?_
      refine .then <| .ret ?_
      subst h
      exact .finw () (.r1 rfl (.tmp .g0)) trivial (Ls.of (.cons .k0 (.cons .k0 (.cons .k0 (.cons .k0 (.cons .k0 (.cons .k0 (.cons .k0 (.cons .k0 (.cons .k0 (.cons .k0 (.cons .k0 (.cons .k0 .nil))))))))))))) .nil
attribute [irreducible] world_World_Side_k0
noncomputable def narrowslaw33_FairRuns (a0 : world_Setup) (a1 : Int) : Option (Bool) :=
  Option.bind (narrowslaw33_alive) fun r2 => if (!r2) = true then (some false) else (Option.bind (world_New a0) fun r5 => if (decide (r5.2 ≠ 0)) = true then (some true) else (Option.bind (fair_Run_bx r5.1 (IntKind.i64.wrap ((Int.tmod (IntKind.i64.wrap ((Int.tmod a1 6) + 6)) 6) - 1))) fun r9 => Option.bind (Option.bind (world_World_Now_bx r9) fun r14 => if (decide (r14 = (if 0 > (IntKind.i64.wrap ((Int.tmod (IntKind.i64.wrap ((Int.tmod a1 6) + 6)) 6) - 1)) then 0 else IntKind.i64.wrap ((Int.tmod (IntKind.i64.wrap ((Int.tmod a1 6) + 6)) 6) - 1)))) = true then (Option.bind r9 fun (y18 : world_World) => if (decide ((world_World_Side_k0 y18) = 0)) = true then (Option.bind (chain_Chain_Pool_bx none) fun r33 => some (decide ((r33.length : Int) = 0))) else (Option.bind (chain_Chain_Pool_bx y18.sides.a0) fun r36 => some (decide ((r36.length : Int) = 0)))) else (some false)) fun (y11 : Bool) => some y11))
set_option maxRecDepth 20000 in
set_option maxHeartbeats 8000000 in
theorem S_narrowslaw33_FairRuns (a0 : world_Setup) (a1 : Int) (r : Bool) (h : narrowslaw33_FairRuns a0 a1 = some r) :
    SpecF Tryz.prog 3 [Ag (world_Setup.cs a0), N a1] [] [] (fun z : Unit => True) (fun z => Bo r) (fun z M =>  M) (fun z M =>  M) := by
  refine .of func3 rfl ntmps3 rfl fun w0 D0 G0 => ?_
  unfold narrowslaw33_FairRuns at h
  refine .seq <| .reg rfl <| .opx (X.box (cs := (world_Setup.cs a0)) .t0 rfl) rfl fun b1 => .op0 (OpP.toV (P.asg .k)) rfl <| .nil <| .then <| .seq <| .seq <| .reg rfl ?_
  obtain ⟨r2, hr3, h⟩ := bnd_eq h
  refine .opg (G.call call5 .nil (S_narrowslaw33_alive  r2 hr3) .nil .nil (fun _ _ => rfl) (fun _ _ => rfl) rfl) rfl fun _ _ => .opp (P.not .t0) rfl <| .nil <| .then <| .cond .t0 (fun c4 => ?_) (fun c4 => ?_)
  · rw [if_pos c4] at h
    refine .seq <| .reg rfl <| .opp (P.asg .k) rfl <| .nil <| .then <| .ret <| .thr ?_
    cases h
    exact .finw () (.r1 rfl (.tmp .g0)) trivial (Ls.of .nil) .nil
  · rw [if_neg (ne_true_of_eq_false c4)] at h
    refine .skip <| .then <| .seq <| .reg rfl <| .op (V.ld (v := Ag (world_Setup.cs a0)) .t0 .k0 (.agg isAgg23 sizeOf23 rfl rfl)) rfl ?_
    obtain ⟨r5, hr6, h⟩ := bnd_eq h
    refine .opg (G.call call6 (.cons .t0 .nil) (S_world_New a0 r5 hr6) .nil .nil (fun _ _ => rfl) (fun _ _ => rfl) rfl) rfl fun u7 _ => .opp (P.mov .t0) rfl <| .opp (P.ext (v := u7) .g0 rfl) rfl <| .opp (P.ext (v := N r5.2) .t1 rfl) rfl <| .opp (P.asg .t1) rfl <| .opp (P.asg .t1) rfl <| .nil <| .then <| .seq <| .seq <| .reg rfl <| .opp (P.mov .t0) rfl ?_
    refine .opp (P.bin .t0 .k .neq) rfl <| .nil <| .then <| .cond .t0 (fun c8 => ?_) (fun c8 => ?_)
    · rw [if_pos c8] at h
      refine .seq <| .reg rfl <| .opp (P.asg .k) rfl <| .nil <| .then <| .ret <| .thr ?_
      cases h
      exact .finw () (.r1 rfl (.tmp .g0)) trivial (Ls.of .nil) .nil
    · rw [if_neg (ne_true_of_eq_false c8)] at h
      refine .skip <| .then <| .seq <| .reg rfl <| .opp (P.mov .g1) rfl <| .opp (P.bin .t0 .k (.rem (by decide))) rfl <| .opp (P.bin .t0 .k .add) rfl <| .opp (P.bin .t0 .k (.rem (by decide))) rfl <| .opp (P.bin .t0 .k .sub) rfl <| .drop .k2 <| .opp (P.asg .t0) rfl <| .nil ?_
      refine .then <| .seq <| .reg rfl <| .opp (P.mov .g1) rfl <| .opp (P.mov .g1) rfl ?_
      obtain ⟨r9, hr10, h⟩ := bnd_eq h
      refine .opg (G.call call7 (.cons .t1 (.cons .t0 .nil)) (S_fair_Run_bx u7 r5.1 (IntKind.i64.wrap ((Int.tmod (IntKind.i64.wrap ((Int.tmod a1 6) + 6)) 6) - 1)) r9 hr10) (.cons .k0 .nil) .nil (fun _ _ => rfl) (fun _ _ => rfl) rfl) rfl fun _ _ => .drop .k0 <| .nil <| .then ?_
      obtain ⟨y11, hj13, h⟩ := bnd_eq h
      refine .cutx (γ := Unit) (E1 := fun z12 => [(4, Bo y11)]) (L1 := fun z12 => []) (R1 := fun z12 => []) ?_ (fun z12 => ?_)
      · clear h
        refine .reg rfl <| .opp (P.mov .g1) rfl ?_
        obtain ⟨r14, hr15, hj13⟩ := bnd_eq hj13
        refine .opg (G.call call8 (.cons .t0 .nil) (S_world_World_Now_bx u7 r9 r14 hr15) (.cons .k0 .nil) .nil (fun _ _ => rfl) (fun _ _ => rfl) rfl) rfl fun _ _ => .opp (P.mov .t1) rfl <| .opp (P.max2 .t0 .k) rfl <| .opp (P.bin .t1 .t0 .eql) rfl <| .opp (P.mov .t0) rfl <| .split .k0 (fun c16 => ?_) (fun c16 => ?_)
        · rw [if_pos c16] at hj13
          refine .gyes rfl .g0 <| .opp (P.mov .t1) rfl <| .gyes rfl .g1 ?_
          obtain ⟨y18, hy19, hj13⟩ := bnd_eq hj13
          refine .bxo .k0 hy19 (fun _ _ _ => rfl) fun ⟨b20, u21, u22, u23, u24, u25, u26, u27, u28, u29, u30, u31⟩ hz17 => ?_
          replace hz17 : u7 = pt b20 0 := hz17
          subst hz17
          refine .opg (G.call call9 (.cons .t0 (.cons .k .nil)) (S_world_World_Side_k0 b20 y18 u21 u22 u23 u24 u25 u26 u27 u28 u29 u30 u31 _ rfl) (.cons .k0 (.cons .k0 (.cons .k0 (.cons .k0 (.cons .k0 (.cons .k0 (.cons .k0 (.cons .k0 (.cons .k0 (.cons .k0 (.cons .k0 (.cons .k0 .nil)))))))))))) .nil (fun _ _ => rfl) (fun _ _ => rfl) rfl) rfl fun _ _ => .dec ((world_World_Side_k0 y18) = 0) (fun c32 => ?_) (fun c32 => ?_)
          · rw [if_pos c32] at hj13
            refine .pkV (u := nilp) .k0 (by rw [of_decide_eq_true c32]; rfl) <| .gyes rfl .g1 <| .bxn chain_Chain.bd chain_Chain.fp ?_
            obtain ⟨r33, hr34, hj13⟩ := bnd_eq hj13
            refine .opg (G.call call10 (.cons .t0 .nil) (S_chain_Chain_Pool_bx nilp none r33 hr34) (.cons .k0 .nil) .nil (fun _ _ => rfl) (fun _ _ => rfl) rfl) rfl fun u35 _ => .gyes rfl .g1 <| .op (V.lnl (n := r33.length) .t0 .k1 map_len runUnderlying31) rfl <| .gyes rfl .g1 <| .opp (P.bin .t0 .k .eql) rfl <| .opp (P.pickT .t1 .t0) rfl <| .opp (P.asg .t0) rfl <| .nil ?_
            cases hj13
            exact .bxc world_World.bd world_World.fp (b20, u21, u22, u23, u24, u25, u26, u27, u28, u29, u30, u31) y18 (z := (pt b20 0)) rfl (.cons .k2 (.cons .k2 (.cons .k2 (.cons .k2 (.cons .k2 (.cons .k2 (.cons .k2 (.cons .k2 (.cons .k2 (.cons .k2 (.cons .k2 (.cons .k2 .nil)))))))))))) <| .conseq .k0 (q := bx world_World.bd world_World.fp (pt b20 0) r9) (fun _ h_ => by rw [hy19]; exact h_) <| .stj () (.cons Mm.m0 .nil) (.of .nil) .nil
          · rw [if_neg (ne_true_of_eq_false c32)] at hj13
            refine .pkV (u := u21) .k0 (by rw [pk, if_neg (of_decide_eq_false c32), pk]) <| .gyes rfl .g1 ?_
            obtain ⟨r36, hr37, hj13⟩ := bnd_eq hj13
            refine .opg (G.call call10 (.cons .t0 .nil) (S_chain_Chain_Pool_bx u21 y18.sides.a0 r36 hr37) (.cons .k1 .nil) .nil (fun _ _ => rfl) (fun _ _ => rfl) rfl) rfl fun u38 _ => .gyes rfl .g1 <| .op (V.lnl (n := r36.length) .t0 .k1 map_len runUnderlying31) rfl <| .gyes rfl .g1 <| .opp (P.bin .t0 .k .eql) rfl <| .opp (P.pickT .t1 .t0) rfl <| .opp (P.asg .t0) rfl <| .nil ?_
            cases hj13
            exact .bxc world_World.bd world_World.fp (b20, u21, u22, u23, u24, u25, u26, u27, u28, u29, u30, u31) y18 (z := (pt b20 0)) rfl (.cons .k2 (.cons .k0 (.cons .k1 (.cons .k1 (.cons .k1 (.cons .k1 (.cons .k1 (.cons .k1 (.cons .k1 (.cons .k1 (.cons .k1 (.cons .k1 .nil)))))))))))) <| .conseq .k0 (q := bx world_World.bd world_World.fp (pt b20 0) r9) (fun _ h_ => by rw [hy19]; exact h_) <| .stj () (.cons Mm.m0 .nil) (.of .nil) .nil
        · rw [if_neg (ne_true_of_eq_false c16)] at hj13
          refine .gno rfl .g0 rfl rfl <| .gno rfl .g0 rfl rfl <| .gno rfl .g0 rfl rfl <| .gno rfl .g0 rfl rfl <| .gno rfl .g0 rfl rfl <| .opp (P.pickF .t0 .k) rfl <| .opp (P.asg .t0) rfl <| .nil ?_
          cases hj13
          exact .stj () (.cons Mm.m0 .nil) (.of .nil) .nil
      · clear hj13
        refine .ret ?_
        cases h
        exact .finw () (.r1 rfl (.tmp .g0)) trivial (Ls.of .nil) .nil
attribute [irreducible] narrowslaw33_FairRuns
end Go.Sl
