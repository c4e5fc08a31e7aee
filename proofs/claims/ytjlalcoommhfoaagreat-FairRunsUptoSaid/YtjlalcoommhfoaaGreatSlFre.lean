/- Walked code of the program, its pure functions and their contracts. -/
import Derived.Test.YtjlalcoommhfoaaGreatSlFrd
set_option linter.unusedVariables false
set_option linter.unusedSimpArgs false
namespace Go.Sl
open Go.Proofs Go.Proofs.Tryz
structure router_sides where
  s : Option chain_Chain
  t : Option chain_Chain
  recs : Unit
  mail : List api_Message
  sends : List api_Send
def router_sides.cs (x : router_sides) (z0 z1 z2 z3 : Value) : List Value := [z0, z1, nilSl, z2, z3]
def router_sides.z : router_sides := ⟨none, none, (), [], []⟩
structure field_Out where
  b : List UInt8
  e_ : Int
  made : Bool
  deriving DecidableEq
def field_Out.cs (x : field_Out) (z0 : Value) : List Value := [z0, N x.e_, .bool x.made]
def field_Out.g (x : field_Out) (z : Value) : Asn := rows 1 z (x.b.map (fun x => [B8 x]))
def field_Out.z : field_Out := ⟨[], 0, false⟩
theorem fa_58_10 : FaV Tryz.prog 58 10 22 := .mk runUnderlying58 rfl sizeOf45 rfl rfl
theorem fa_72_1 : FaV Tryz.prog 72 1 1 := .mk runUnderlying72 rfl sizeOf3 rfl rfl
theorem fa_83_7 : FaV Tryz.prog 83 7 20 := .mk runUnderlying83 rfl sizeOf77 rfl rfl
theorem fa_110_2 : FaV Tryz.prog 110 2 2 := .mk runUnderlying110 rfl sizeOf104 rfl rfl
theorem fa_110_3 : FaV Tryz.prog 110 3 3 := .mk runUnderlying110 rfl sizeOf106 rfl rfl
theorem fa_110_5 : FaV Tryz.prog 110 5 5 := .mk runUnderlying110 rfl sizeOf108 rfl rfl
theorem fa_110_6 : FaV Tryz.prog 110 6 6 := .mk runUnderlying110 rfl sizeOf4 rfl rfl
theorem fa_110_7 : FaV Tryz.prog 110 7 7 := .mk runUnderlying110 rfl sizeOf4 rfl rfl
theorem fa_120_0 : FaV Tryz.prog 120 0 0 := .mk runUnderlying120 rfl sizeOf116 rfl rfl
theorem fa_120_1 : FaV Tryz.prog 120 1 1 := .mk runUnderlying120 rfl sizeOf117 rfl rfl
theorem fa_120_2 : FaV Tryz.prog 120 2 2 := .mk runUnderlying120 rfl sizeOf118 rfl rfl
theorem fa_122_1 : FaV Tryz.prog 122 1 1 := .mk runUnderlying122 rfl sizeOf3 rfl rfl
theorem fa_122_4 : FaV Tryz.prog 122 4 4 := .mk runUnderlying122 rfl sizeOf113 rfl rfl
theorem fa_122_5 : FaV Tryz.prog 122 5 5 := .mk runUnderlying122 rfl sizeOf104 rfl rfl
theorem fa_122_6 : FaV Tryz.prog 122 6 6 := .mk runUnderlying122 rfl sizeOf115 rfl rfl
theorem fa_122_7 : FaV Tryz.prog 122 7 7 := .mk runUnderlying122 rfl sizeOf4 rfl rfl
theorem fa_122_8 : FaV Tryz.prog 122 8 8 := .mk runUnderlying122 rfl sizeOf4 rfl rfl
theorem fa_122_9 : FaV Tryz.prog 122 9 9 := .mk runUnderlying122 rfl sizeOf120 rfl rfl
theorem fa_124_0 : FaV Tryz.prog 124 0 0 := .mk runUnderlying124 rfl sizeOf117 rfl rfl
theorem fa_155_0 : FaV Tryz.prog 155 0 0 := .mk runUnderlying155 rfl sizeOf70 rfl rfl
theorem fa_155_1 : FaV Tryz.prog 155 1 1 := .mk runUnderlying155 rfl sizeOf3 rfl rfl
theorem fa_155_2 : FaV Tryz.prog 155 2 2 := .mk runUnderlying155 rfl sizeOf3 rfl rfl
theorem fa_155_3 : FaV Tryz.prog 155 3 3 := .mk runUnderlying155 rfl sizeOf4 rfl rfl
theorem fa_162_1 : FaV Tryz.prog 162 1 1 := .mk runUnderlying162 rfl sizeOf26 rfl rfl
theorem fa_162_2 : FaV Tryz.prog 162 2 2 := .mk runUnderlying162 rfl sizeOf83 rfl rfl
theorem fa_165_1 : FaV Tryz.prog 165 1 1 := .mk runUnderlying165 rfl sizeOf163 rfl rfl
theorem fa_172_0 : FaV Tryz.prog 172 0 0 := .mk runUnderlying172 rfl sizeOf3 rfl rfl
theorem fa_174_1 : FaV Tryz.prog 174 1 1 := .mk runUnderlying174 rfl sizeOf172 rfl rfl
theorem fa_176_2 : FaV Tryz.prog 176 2 10 := .mk runUnderlying176 rfl sizeOf174 rfl rfl
theorem fa_176_3 : FaV Tryz.prog 176 3 26 := .mk runUnderlying176 rfl sizeOf79 rfl rfl
theorem fa_176_5 : FaV Tryz.prog 176 5 38 := .mk runUnderlying176 rfl sizeOf77 rfl rfl
theorem fa_176_6 : FaV Tryz.prog 176 6 42 := .mk runUnderlying176 rfl sizeOf9 rfl rfl
theorem fa_181_0 : FaV Tryz.prog 181 0 0 := .mk runUnderlying181 rfl sizeOf3 rfl rfl
theorem fa_181_1 : FaV Tryz.prog 181 1 1 := .mk runUnderlying181 rfl sizeOf83 rfl rfl
theorem fa_255_2 : FaV Tryz.prog 255 2 2 := .mk runUnderlying255 rfl sizeOf116 rfl rfl
theorem fa_255_3 : FaV Tryz.prog 255 3 3 := .mk runUnderlying255 rfl sizeOf117 rfl rfl
theorem fa_255_4 : FaV Tryz.prog 255 4 4 := .mk runUnderlying255 rfl sizeOf118 rfl rfl
theorem fa_368_0 : FaV Tryz.prog 368 0 0 := .mk runUnderlying368 rfl sizeOf70 rfl rfl
theorem fa_368_1 : FaV Tryz.prog 368 1 1 := .mk runUnderlying368 rfl sizeOf26 rfl rfl
theorem fa_368_2 : FaV Tryz.prog 368 2 2 := .mk runUnderlying368 rfl sizeOf4 rfl rfl
theorem pl_120 : ∀ w, ((#[{ name := "recs", type := 116, offset := 0, embedded := false, tag := "", pkgPath := "narrows/client", byteOffset := 0 }, { name := "mail", type := 117, offset := 1, embedded := false, tag := "", pkgPath := "narrows/client", byteOffset := 24 }, { name := "sends", type := 118, offset := 2, embedded := false, tag := "", pkgPath := "narrows/client", byteOffset := 48 }] : Array Field).mapM fun f => do pure (f.offset, ← sizeOf f.type) : Sem (Array (Nat × Nat))).run Tryz.prog w = .ok #[(0, 1), (1, 1), (2, 1)] w := fun w => by simp [sizeOf116, sizeOf117, sizeOf118]
theorem pl_178 : ∀ w, ((#[{ name := "inv", type := 79, offset := 0, embedded := false, tag := "", pkgPath := "narrows/world", byteOffset := 0 }, { name := "fee", type := 77, offset := 7, embedded := false, tag := "", pkgPath := "narrows/world", byteOffset := 72 }, { name := "sig", type := 9, offset := 11, embedded := false, tag := "", pkgPath := "narrows/world", byteOffset := 104 }] : Array Field).mapM fun f => do pure (f.offset, ← sizeOf f.type) : Sem (Array (Nat × Nat))).run Tryz.prog w = .ok #[(0, 7), (7, 4), (11, 1)] w := fun w => by simp [sizeOf9, sizeOf77, sizeOf79]
theorem pl_255 : ∀ w, ((#[{ name := "s", type := 32, offset := 0, embedded := false, tag := "", pkgPath := "narrows/router", byteOffset := 0 }, { name := "t", type := 32, offset := 1, embedded := false, tag := "", pkgPath := "narrows/router", byteOffset := 8 }, { name := "recs", type := 116, offset := 2, embedded := false, tag := "", pkgPath := "narrows/router", byteOffset := 16 }, { name := "mail", type := 117, offset := 3, embedded := false, tag := "", pkgPath := "narrows/router", byteOffset := 40 }, { name := "sends", type := 118, offset := 4, embedded := false, tag := "", pkgPath := "narrows/router", byteOffset := 64 }] : Array Field).mapM fun f => do pure (f.offset, ← sizeOf f.type) : Sem (Array (Nat × Nat))).run Tryz.prog w = .ok #[(0, 1), (1, 1), (2, 1), (3, 1), (4, 1)] w := fun w => by simp [sizeOf32, sizeOf116, sizeOf117, sizeOf118]
theorem pl_368 : ∀ w, ((#[{ name := "b", type := 70, offset := 0, embedded := false, tag := "", pkgPath := "narrows/field", byteOffset := 0 }, { name := "e", type := 26, offset := 1, embedded := false, tag := "", pkgPath := "narrows/field", byteOffset := 24 }, { name := "made", type := 4, offset := 2, embedded := false, tag := "", pkgPath := "narrows/field", byteOffset := 32 }] : Array Field).mapM fun f => do pure (f.offset, ← sizeOf f.type) : Sem (Array (Nat × Nat))).run Tryz.prog w = .ok #[(0, 1), (1, 1), (2, 1)] w := fun w => by simp [sizeOf4, sizeOf26, sizeOf70]
theorem onez_120 (x : client_out) {z0 z1 : Value} (hz0 : z0.oneCell' = true) (hz1 : z1.oneCell' = true) : oneAll (client_out.cs x z0 z1) = true := by
  simp only [oneAll, client_out.cs, List.all_cons, List.all_nil, hz0, hz1]
  rfl
noncomputable def world_World_client (a0 : world_World) (a1 : Int) : Option (Nat) :=
  thn (if (decide (a1 < 0)) = true then true else (decide (a1 ≥ 2))) fun (y1 : Bool) => if y1 = true then (some 0) else (if (decide (a1 = 0)) = true then (some 1) else (if (decide (a1 = 1)) = true then (some 2) else none))
set_option maxRecDepth 20000 in
set_option maxHeartbeats 8000000 in
theorem S_world_World_client (b00 : Nat) (a0 : world_World) (z00a z00b z00c z00d z00e z00f z00g z00h z00i z00j z00k : Value) (a1 : Int) (r : Nat) (h : world_World_client a0 a1 = some r) :
    SpecF Tryz.prog 76 [pt b00 0, N a1] [blk b00 58 (world_World.cs a0 z00a z00b z00c z00d z00e z00f z00g z00h z00i z00j z00k), bx chain_Chain.bd chain_Chain.fp z00a a0.sides.a0, bx chain_Chain.bd chain_Chain.fp z00b a0.sides.a1, bx client_Client.bd client_Client.fp z00c a0.clients.a0, bx client_Client.bd client_Client.fp z00d a0.clients.a1, bx router_Router.bd router_Router.fp z00e a0.routers.a0, bx router_Router.bd router_Router.fp z00f a0.routers.a1, bx relay_Relay.bd relay_Relay.fp z00g a0.relay, mb (fun (x : world_place) => Ag x.cs) (fun (x : Int) => N x) z00h a0.since, mb (fun (x : world_word) => Ag x.cs) (fun (x : Bool) => Bo x) z00i a0.told, mb (fun (x : ByteArray) => Value.string x) (fun (x : api_Inv) => Ag x.cs) z00j a0.keys, mb (fun (x : ByteArray) => Value.string x) (fun (x : world_data) => Ag x.cs) z00k a0.digests] [] (fun z : Unit => True) (fun z => pk r 0 [nilp, z00c, z00d]) (fun z M => blk b00 58 (world_World.cs a0 z00a z00b z00c z00d z00e z00f z00g z00h z00i z00j z00k) :: bx chain_Chain.bd chain_Chain.fp z00a a0.sides.a0 :: bx chain_Chain.bd chain_Chain.fp z00b a0.sides.a1 :: bx client_Client.bd client_Client.fp z00c a0.clients.a0 :: bx client_Client.bd client_Client.fp z00d a0.clients.a1 :: bx router_Router.bd router_Router.fp z00e a0.routers.a0 :: bx router_Router.bd router_Router.fp z00f a0.routers.a1 :: bx relay_Relay.bd relay_Relay.fp z00g a0.relay :: mb (fun (x : world_place) => Ag x.cs) (fun (x : Int) => N x) z00h a0.since :: mb (fun (x : world_word) => Ag x.cs) (fun (x : Bool) => Bo x) z00i a0.told :: mb (fun (x : ByteArray) => Value.string x) (fun (x : api_Inv) => Ag x.cs) z00j a0.keys :: mb (fun (x : ByteArray) => Value.string x) (fun (x : world_data) => Ag x.cs) z00k a0.digests ::  M) (fun z M =>  M) := by
  refine .of func76 rfl ntmps76 rfl fun w0 D0 G0 => ?_
  unfold world_World_client at h
  refine .seq <| .reg rfl <| .op0 (OpP.toV (P.asg .k)) rfl <| .nil <| .then <| .seq ?_
  obtain ⟨y1, hj3, h⟩ := thn_eq h
  refine .cutx (γ := Unit) (E1 := fun z2 => [(10, Bo y1), (0, pt b00 0), (1, N a1)]) (L1 := fun z2 => [blk b00 58 (world_World.cs a0 z00a z00b z00c z00d z00e z00f z00g z00h z00i z00j z00k), bx chain_Chain.bd chain_Chain.fp z00a a0.sides.a0, bx chain_Chain.bd chain_Chain.fp z00b a0.sides.a1, bx client_Client.bd client_Client.fp z00c a0.clients.a0, bx client_Client.bd client_Client.fp z00d a0.clients.a1, bx router_Router.bd router_Router.fp z00e a0.routers.a0, bx router_Router.bd router_Router.fp z00f a0.routers.a1, bx relay_Relay.bd relay_Relay.fp z00g a0.relay, mb (fun (x : world_place) => Ag x.cs) (fun (x : Int) => N x) z00h a0.since, mb (fun (x : world_word) => Ag x.cs) (fun (x : Bool) => Bo x) z00i a0.told, mb (fun (x : ByteArray) => Value.string x) (fun (x : api_Inv) => Ag x.cs) z00j a0.keys, mb (fun (x : ByteArray) => Value.string x) (fun (x : world_data) => Ag x.cs) z00k a0.digests]) (R1 := fun z2 => []) ?_ (fun z2 => ?_)
  · clear h
    refine .reg rfl <| .opp (P.mov .g1) rfl <| .opp (P.bin .t0 .k .lss) rfl <| .opp (P.mov .t0) rfl <| .split .k0 (fun c4 => ?_) (fun c4 => ?_)
    · rw [if_pos c4] at hj3
      refine .gno rfl .g0 rfl rfl <| .gno rfl .g0 rfl rfl <| .opp (P.pickT .t0 .k) rfl <| .nil ?_
      subst hj3
      exact .stj () (.cons Mm.m0 (.cons Mm.m1 (.cons Mm.m2 .nil))) (.of (.cons .k0 (.cons .k0 (.cons .k0 (.cons .k0 (.cons .k0 (.cons .k0 (.cons .k0 (.cons .k0 (.cons .k0 (.cons .k0 (.cons .k0 (.cons .k0 .nil))))))))))))) .nil
    · rw [if_neg (ne_true_of_eq_false c4)] at hj3
      refine .gyes rfl .g0 <| .opp (P.mov .g2) rfl <| .gyes rfl .g1 <| .opp (P.bin .t0 .k .geq) rfl <| .opp (P.pickF .t1 .t0) rfl <| .nil ?_
      subst hj3
      exact .stj () (.cons Mm.m0 (.cons Mm.m1 (.cons Mm.m2 .nil))) (.of (.cons .k0 (.cons .k0 (.cons .k0 (.cons .k0 (.cons .k0 (.cons .k0 (.cons .k0 (.cons .k0 (.cons .k0 (.cons .k0 (.cons .k0 (.cons .k0 .nil))))))))))))) .nil
  · clear hj3
    refine .cond .t0 (fun c5 => ?_) (fun c5 => ?_)
    · rw [if_pos c5] at h
      refine .seq <| .reg rfl <| .opp (P.asg .k) rfl <| .nil <| .then <| .ret <| .thr ?_
      cases h
      exact .finw () (.r1 rfl (.tmp .g0)) trivial (Ls.of (.cons .k0 (.cons .k0 (.cons .k0 (.cons .k0 (.cons .k0 (.cons .k0 (.cons .k0 (.cons .k0 (.cons .k0 (.cons .k0 (.cons .k0 (.cons .k0 .nil))))))))))))) .nil
    · rw [if_neg (ne_true_of_eq_false c5)] at h
      refine .skip <| .then <| .seq <| .reg rfl <| .opp (P.mov .t0) rfl <| .opp (P.mov .t1) rfl <| .opp (P.nilc .t1) rfl <| .opp (P.fa .t0 fa_58_2 rfl) rfl <| .ixS 0 .k1 (fun c6 => ?_) (fun c6 => ?_)
      · rw [if_pos c6] at h
        refine .opp (P.iac (i := 0) .t0 rfl .t0 runUnderlying50 sizeOf49 rfl rfl) rfl <| .op (V.ld (v := z00c) .t0 .k0 (.one isAgg49 rfl)) rfl <| .opp (P.asg .t0) rfl <| .nil <| .then <| .ret ?_
        cases h
        exact .finw () (.r1 rfl (.tmp .g0)) trivial (Ls.of (.cons .k0 (.cons .k0 (.cons .k0 (.cons .k0 (.cons .k0 (.cons .k0 (.cons .k0 (.cons .k0 (.cons .k0 (.cons .k0 (.cons .k0 (.cons .k0 .nil))))))))))))) .nil
      · rw [if_neg (ne_true_of_eq_false c6)] at h
        refine .ixS 1 .k0 (fun c7 => ?_) (fun c7 => ?_)
        · rw [if_pos c7] at h
          refine .opp (P.iac (i := 1) .t0 rfl .t0 runUnderlying50 sizeOf49 rfl rfl) rfl <| .op (V.ld (v := z00d) .t0 .k0 (.one isAgg49 rfl)) rfl <| .opp (P.asg .t0) rfl <| .nil <| .then <| .ret ?_
          cases h
          exact .finw () (.r1 rfl (.tmp .g0)) trivial (Ls.of (.cons .k0 (.cons .k0 (.cons .k0 (.cons .k0 (.cons .k0 (.cons .k0 (.cons .k0 (.cons .k0 (.cons .k0 (.cons .k0 (.cons .k0 (.cons .k0 .nil))))))))))))) .nil
        · rw [if_neg (ne_true_of_eq_false c7)] at h
          cases h
attribute [irreducible] world_World_client
noncomputable def client_Client_up_bx (a0 : Option client_Client) : Option (Int) :=
  Option.bind (if a0.isNone = true then (some true) else (Option.bind a0 fun (y7 : client_Client) => some (!y7.made))) fun (y1 : Bool) => if y1 = true then (some 9) else (Option.bind a0 fun (y17 : client_Client) => if y17.down = true then (some 17) else (some 0))
set_option maxRecDepth 20000 in
set_option maxHeartbeats 8000000 in
theorem S_client_Client_up_bx (v00 : Value) (a0 : Option client_Client) (r : Int) (h : client_Client_up_bx a0 = some r) :
    SpecF Tryz.prog 134 [v00] [bx client_Client.bd client_Client.fp v00 a0] [] (fun z : Unit => True) (fun z => N r) (fun z M => bx client_Client.bd client_Client.fp v00 a0 ::  M) (fun z M =>  M) := by
  refine .of func134 rfl ntmps134 rfl fun w0 D0 G0 => ?_
  unfold client_Client_up_bx at h
  refine .seq <| .reg rfl <| .op0 (OpP.toV (P.asg .k)) rfl <| .nil <| .then <| .seq <| .block ?_
  obtain ⟨y1, hj3, h⟩ := bnd_eq h
  refine .cutx (γ := Unit) (E1 := fun z2 => [(3, Bo y1), (0, v00)]) (L1 := fun z2 => [bx client_Client.bd client_Client.fp v00 a0]) (R1 := fun z2 => []) ?_ (fun z2 => ?_)
  · clear h
    refine .reg rfl <| .opp (P.mov .g0) rfl <| .fact .k0 (fun _ hh => bx_nil (P := Tryz.prog) (t := 49) (e := 122) (by kernel_rfl) hh) fun hq4 => .opp (P.bin .t0 .k hq4.1) rfl <| .opp (P.mov .t0) rfl <| .split .k0 (fun c5 => ?_) (fun c5 => ?_)
    · rw [if_pos c5] at hj3
      refine .gno rfl .g0 rfl rfl <| .gno rfl .g0 rfl rfl <| .gno rfl .g0 rfl rfl <| .gno rfl .g0 rfl rfl <| .gno rfl .g0 rfl rfl <| .opp (P.pickT .t0 .k) rfl <| .opp (P.asg .t0) rfl <| .nil ?_
      cases hj3
      exact .stj () (.cons Mm.m0 (.cons Mm.m1 .nil)) (.of (.cons .k0 .nil)) .nil
    · rw [if_neg (ne_true_of_eq_false c5)] at hj3
      refine .gyes rfl .g0 <| .opp (P.mov .g1) rfl <| .gyes rfl .g1 ?_
      obtain ⟨y7, hy8, hj3⟩ := bnd_eq hj3
      refine .bxo .k0 hy8 (fun _ _ _ => rfl) fun ⟨b9, u10, u11, u12, u13, u14⟩ hz6 => ?_
      replace hz6 : v00 = pt b9 0 := hz6
      subst hz6
      refine .opp (P.nilc .t0) rfl <| .gyes rfl .g1 <| .opp (P.fa .t0 fa_122_8 rfl) rfl <| .gyes rfl .g1 <| .op (V.ld (v := Bo y7.made) .t0 .k0 (.one isAgg4 rfl)) rfl <| .gyes rfl .g1 <| .opp (P.not .t0) rfl <| .opp (P.pickF .t1 .t0) rfl <| .opp (P.asg .t0) rfl <| .nil ?_
      cases hj3
      exact .bxc client_Client.bd client_Client.fp (b9, u10, u11, u12, u13, u14) y7 (z := (pt b9 0)) rfl (.cons .k0 (.cons .k0 (.cons .k0 (.cons .k0 (.cons .k0 (.cons .k0 .nil)))))) <| .conseq .k0 (q := bx client_Client.bd client_Client.fp (pt b9 0) a0) (fun _ h_ => by rw [hy8]; exact h_) <| .stj () (.cons Mm.m0 (.cons Mm.m1 .nil)) (.of (.cons .k0 .nil)) .nil
  · clear hj3
    refine .cond .t0 (fun c15 => ?_) (fun c15 => ?_)
    · rw [if_pos c15] at h
      refine .seq <| .reg rfl <| .opp (P.asg .k) rfl <| .nil <| .then <| .ret <| .inr <| .thr ?_
      cases h
      exact .finw () (.r1 rfl (.tmp .g0)) trivial (Ls.of (.cons .k0 .nil)) .nil
    · rw [if_neg (ne_true_of_eq_false c15)] at h
      refine .seq <| .reg rfl <| .opp (P.mov .t0) rfl ?_
      obtain ⟨y17, hy18, h⟩ := bnd_eq h
      refine .bxo .k0 hy18 (fun _ _ _ => rfl) fun ⟨b19, u20, u21, u22, u23, u24⟩ hz16 => ?_
      replace hz16 : v00 = pt b19 0 := hz16
      subst hz16
      refine .opp (P.nilc .t0) rfl <| .opp (P.fa .t0 fa_122_7 rfl) rfl <| .op (V.ld (v := Bo y17.down) .t0 .k0 (.one isAgg4 rfl)) rfl <| .opp (P.asg .t0) rfl <| .nil <| .then <| .cond .t0 (fun c25 => ?_) (fun c25 => ?_)
      · rw [if_pos c25] at h
        refine .seq <| .reg rfl <| .opp (P.asg .k) rfl <| .nil <| .then <| .ret <| .inr <| .thr ?_
        cases h
        exact .bxc client_Client.bd client_Client.fp (b19, u20, u21, u22, u23, u24) y17 (z := (pt b19 0)) rfl (.cons .k0 (.cons .k0 (.cons .k0 (.cons .k0 (.cons .k0 (.cons .k0 .nil)))))) <| .conseq .k0 (q := bx client_Client.bd client_Client.fp (pt b19 0) a0) (fun _ h_ => by rw [hy18]; exact h_) <| .finw () (.r1 rfl (.tmp .g0)) trivial (Ls.of (.cons .k0 .nil)) .nil
      · rw [if_neg (ne_true_of_eq_false c25)] at h
        refine .skip <| .inn <| .then <| .seq <| .reg rfl <| .opp (P.asg .k) rfl <| .nil <| .then <| .ret ?_
        cases h
        exact .bxc client_Client.bd client_Client.fp (b19, u20, u21, u22, u23, u24) y17 (z := (pt b19 0)) rfl (.cons .k0 (.cons .k0 (.cons .k0 (.cons .k0 (.cons .k0 (.cons .k0 .nil)))))) <| .conseq .k0 (q := bx client_Client.bd client_Client.fp (pt b19 0) a0) (fun _ h_ => by rw [hy18]; exact h_) <| .finw () (.r1 rfl (.tmp .g0)) trivial (Ls.of (.cons .k0 .nil)) .nil
attribute [irreducible] client_Client_up_bx
noncomputable def client_Client_Down_bx (a0 : Option client_Client) : Option (Bool) :=
  Option.bind (client_Client_up_bx a0) fun r1 => some (decide (r1 ≠ 0))
set_option maxRecDepth 20000 in
set_option maxHeartbeats 8000000 in
theorem S_client_Client_Down_bx (v00 : Value) (a0 : Option client_Client) (r : Bool) (h : client_Client_Down_bx a0 = some r) :
    SpecF Tryz.prog 77 [v00] [bx client_Client.bd client_Client.fp v00 a0] [] (fun z : Unit => True) (fun z => Bo r) (fun z M => bx client_Client.bd client_Client.fp v00 a0 ::  M) (fun z M =>  M) := by
  refine .of func77 rfl ntmps77 rfl fun w0 D0 G0 => ?_
  unfold client_Client_Down_bx at h
  refine .seq <| .reg rfl <| .op0 (OpP.toV (P.asg .k)) rfl <| .nil <| .then <| .seq <| .reg rfl <| .opp (P.mov .t0) rfl ?_
  obtain ⟨r1, hr2, h⟩ := bnd_eq h
  refine .opg (G.call call134 (.cons .t0 .nil) (S_client_Client_up_bx v00 a0 r1 hr2) (.cons .k0 .nil) .nil (fun _ _ => rfl) (fun _ _ => rfl) rfl) rfl fun _ _ => .opp (P.bin .t0 .k .neq) rfl <| .opp (P.asg .t0) rfl <| .nil <| .then <| .ret ?_
  cases h
  exact .finw () (.r1 rfl (.tmp .g0)) trivial (Ls.of (.cons .k0 .nil)) .nil
attribute [irreducible] client_Client_Down_bx
noncomputable def chain_Chain_Time_bx (a0 : Option chain_Chain) : Option (Int) :=
  Option.bind (chain_Chain_is_bx a0) fun r1 => if (!r1) = true then (some 0) else (Option.bind a0 fun (y5 : chain_Chain) => some y5.s.Time)
set_option maxRecDepth 20000 in
set_option maxHeartbeats 8000000 in
theorem S_chain_Chain_Time_bx (v00 : Value) (a0 : Option chain_Chain) (r : Int) (h : chain_Chain_Time_bx a0 = some r) :
    SpecF Tryz.prog 95 [v00] [bx chain_Chain.bd chain_Chain.fp v00 a0] [] (fun z : Unit => True) (fun z => N r) (fun z M => bx chain_Chain.bd chain_Chain.fp v00 a0 ::  M) (fun z M =>  M) := by
  refine .of func95 rfl ntmps95 rfl fun w0 D0 G0 => ?_
  unfold chain_Chain_Time_bx at h
  refine .seq <| .reg rfl <| .op0 (OpP.toV (P.asg .k)) rfl <| .nil <| .then <| .seq <| .seq <| .reg rfl <| .opp (P.mov .g0) rfl ?_
  obtain ⟨r1, hr2, h⟩ := bnd_eq h
  refine .opg (G.call call25 (.cons .t0 .nil) (S_chain_Chain_is_bx v00 a0 r1 hr2) (.cons .k0 .nil) .nil (fun _ _ => rfl) (fun _ _ => rfl) rfl) rfl fun _ _ => .opp (P.not .t0) rfl <| .nil <| .then <| .cond .t0 (fun c3 => ?_) (fun c3 => ?_)
  · rw [if_pos c3] at h
    refine .seq <| .reg rfl <| .opp (P.asg .k) rfl <| .nil <| .then <| .ret <| .thr ?_
    cases h
    exact .finw () (.r1 rfl (.tmp .g0)) trivial (Ls.of (.cons .k0 .nil)) .nil
  · rw [if_neg (ne_true_of_eq_false c3)] at h
    refine .skip <| .then <| .seq <| .reg rfl <| .opp (P.mov .t0) rfl ?_
    obtain ⟨y5, hy6, h⟩ := bnd_eq h
    refine .bxo .k0 hy6 (fun _ _ _ => rfl) fun ⟨b7, u8, u9, u10⟩ hz4 => ?_
    replace hz4 : v00 = pt b7 0 := hz4
    subst hz4
    refine .opp (P.nilc .t0) rfl <| .opp (P.fa .t0 fa_93_0 rfl) rfl <| .opp (P.fa .t0 fa_90_1 rfl) rfl <| .op (V.ld (v := N y5.s.Time) .t0 .k0 (.one isAgg3 rfl)) rfl <| .opp (P.asg .t0) rfl <| .nil <| .then <| .ret ?_
    cases h
    exact .bxc chain_Chain.bd chain_Chain.fp (b7, u8, u9, u10) y5 (z := (pt b7 0)) rfl (.cons .k0 (.cons .k0 (.cons .k0 (.cons .k0 .nil)))) <| .conseq .k0 (q := bx chain_Chain.bd chain_Chain.fp (pt b7 0) a0) (fun _ h_ => by rw [hy6]; exact h_) <| .finw () (.r1 rfl (.tmp .g0)) trivial (Ls.of (.cons .k0 .nil)) .nil
attribute [irreducible] chain_Chain_Time_bx
noncomputable def auction_Room_Asks_bx (a0 : Option auction_Room) : Option ((List api_Ask)) :=
  if a0.isNone = true then (some ([] : List api_Ask)) else (Option.bind a0 fun (y4 : auction_Room) => some ([] : List api_Ask))
set_option maxRecDepth 20000 in
set_option maxHeartbeats 8000000 in
theorem S_auction_Room_Asks_bx (v00 : Value) (a0 : Option auction_Room) (r : (List api_Ask)) (h : auction_Room_Asks_bx a0 = some r) :
    SpecF Tryz.prog 266 [v00] [bx auction_Room.bd auction_Room.fp v00 a0] [] (fun z : Value => True) (fun z => z) (fun z M => bx auction_Room.bd auction_Room.fp v00 a0 :: lst 172 9 z (r.map api_Ask.cs) ::  M) (fun z M =>  M) := by
  refine .of func266 rfl ntmps266 rfl fun w0 D0 G0 => ?_
  unfold auction_Room_Asks_bx at h
  refine .seq <| .reg rfl <| .op0 (OpP.toV (P.asg .k)) rfl <| .nil <| .then <| .seq <| .seq <| .reg rfl <| .opp (P.mov .g0) rfl <| .fact .k0 (fun _ hh => bx_nil (P := Tryz.prog) (t := 113) (e := 165) (by kernel_rfl) hh) fun hq1 => .opp (P.bin .t0 .k hq1.1) rfl <| .nil ?_
  refine .then <| .cond .t0 (fun c2 => ?_) (fun c2 => ?_)
  · rw [if_pos c2] at h
    refine .seq <| .reg rfl <| .opp (P.asg .k) rfl <| .nil <| .then <| .ret <| .thr ?_
    cases h
    exact .lnil 172 9 <| .finw nilSl (.r1 rfl (.tmp .g0)) trivial (Ls.of (.cons .k1 (.cons .k0 .nil))) .nil
  · rw [if_neg (ne_true_of_eq_false c2)] at h
    refine .skip <| .then <| .seq <| .reg rfl <| .opp (P.asg .k) rfl <| .nil <| .then <| .seq <| .seq <| .reg rfl <| .opp (P.mov .t1) rfl ?_
    obtain ⟨y4, hy5, h⟩ := bnd_eq h
    refine .bxo .k0 hy5 (fun _ _ _ => rfl) fun ⟨b6, u7⟩ hz3 => ?_
    replace hz3 : v00 = pt b6 0 := hz3
    subst hz3
    refine .opp (P.nilc .t0) rfl <| .opp (P.fa .t0 fa_165_1 rfl) rfl <| .op (V.ld (v := nilSl) .t0 .k0 (.one isAgg163 rfl)) rfl <| .opp (P.lenn .g0 runUnderlying163) rfl <| .opp (P.mov .k) rfl <| .nil <| .then <| .block <| .rounds 1 <| .rd <| .seq <| .reg rfl ?_
    refine .opp (P.bin (v := Bo false) .g0 .g1 (BinV.lss.boolc (by decide))) rfl <| .nil <| .then <| .seq <| .condF .t0 <| .exit <| .thx <| .thx <| .inb <| .then <| .seq <| .reg rfl ?_
    refine .opp (P.mov .t3) rfl <| .opp (P.asg .t0) rfl <| .nil <| .then <| .ret ?_
    cases h
    exact .bxc auction_Room.bd auction_Room.fp (b6, u7) y4 (z := (pt b6 0)) rfl (.cons .k0 (.cons .k0 .nil)) <| .conseq .k0 (q := bx auction_Room.bd auction_Room.fp (pt b6 0) a0) (fun _ h_ => by rw [hy5]; exact h_) <| .lnil 172 9 <| .finw nilSl (.r1 rfl (.tmp .g0)) trivial (Ls.of (.cons .k1 (.cons .k0 .nil))) .nil
attribute [irreducible] auction_Room_Asks_bx
noncomputable def client_Client_choose (a0 : client_Client) (a1 : Int) : Option (Unit) :=
  Option.bind (auction_Room_Asks_bx a0.room) fun r1 => if (decide (0 < (r1.length : Int))) = true then (Option.bind (at_ r1 0) fun (x8 : api_Ask) => none) else (some ())
set_option maxRecDepth 20000 in
set_option maxHeartbeats 8000000 in
theorem S_client_Client_choose (b00 : Nat) (a0 : client_Client) (z00a z00b z00c z00d z00e : Value) (a1 : Int) (r : Unit) (h : client_Client_choose a0 a1 = some r) :
    SpecF Tryz.prog 198 [pt b00 0, N a1] [blk b00 122 (client_Client.cs a0 z00a z00b z00c z00d z00e), lst 9 1 z00a (a0.roots.map (fun x => [.string x])), bx auction_Room.bd auction_Room.fp z00b a0.room, bx disk_Disk.bd disk_Disk.fp z00c a0.disk, lst 176 43 z00d (a0.out.mail.map api_Message.cs), lst 181 26 z00e (a0.out.sends.map api_Send.cs)] [] (fun z : Unit => True) (fun z => Tu []) (fun z M => blk b00 122 (client_Client.cs a0 z00a z00b z00c z00d z00e) :: lst 9 1 z00a (a0.roots.map (fun x => [.string x])) :: bx auction_Room.bd auction_Room.fp z00b a0.room :: bx disk_Disk.bd disk_Disk.fp z00c a0.disk :: lst 176 43 z00d (a0.out.mail.map api_Message.cs) :: lst 181 26 z00e (a0.out.sends.map api_Send.cs) ::  M) (fun z M =>  M) := by
  refine .of func198 rfl ntmps198 rfl fun w0 D0 G0 => ?_
  unfold client_Client_choose at h
  refine .seq <| .reg rfl <| .opp (P.mov .g0) rfl <| .opp (P.nilc .t0) rfl <| .opp (P.fa .t0 fa_122_4 rfl) rfl <| .op (V.ld (v := z00b) .t0 .k0 (.one isAgg113 rfl)) rfl ?_
  obtain ⟨r1, hr2, h⟩ := bnd_eq h
  refine .opg (G.call call266 (.cons .t0 .nil) (S_auction_Room_Asks_bx z00b a0.room r1 hr2) (.cons .k2 .nil) .nil (fun _ _ => rfl) (fun _ _ => rfl) rfl) rfl fun u3 _ => .op (V.lnl (n := r1.length) .g0 .k1 map_len runUnderlying106) rfl <| .opp (P.mov .k) rfl <| .nil <| .then <| .block <| .rounds 1 <| .rd <| .seq <| .reg rfl <| .opp (P.bin .g0 .g1 .lss) rfl <| .nil ?_
  refine .then <| .seq <| .cond .t0 (fun c4 => ?_) (fun c4 => ?_)
  · rw [if_pos c4] at h
    refine .skip <| .then <| .seq <| .block <| .seq <| .reg rfl ?_
    obtain ⟨x8, hx9, h⟩ := bnd_eq h
    obtain ⟨i10, hi11, hx9⟩ := at_eq hx9
    have hi11_ : (0 : Int).toNat = i10 := by rw [hi11]; rfl
    refine .ixql .k1 (map_get hx9) fun p5 q6 hq7 => .opp (P.ixi (i := i10) .g0 hi11 .g2 hq7 runUnderlying106 sizeOf172) rfl <| .op (V.ldxl0 (u := Ag (api_Ask.cs x8)) .t0 hq7 .k1 (map_get hx9) (.agg isAgg172 sizeOf172 rfl rfl)) rfl <| .opx (X.alc (cs := (api_Ask.cs ⟨0, 0, 0, 0, ⟨0, 0, 0, 0⟩, ⟨#[]⟩⟩)) zeroValue172 rfl) rfl fun b12 => .opg (G.str .t1 .g0 .k0 (.mk (cs' := (api_Ask.cs x8)) sizeOf172 rfl rfl rfl rfl)) rfl fun _ _ => .nil <| .then <| .seq ?_
    cases h
  · rw [if_neg (ne_true_of_eq_false c4)] at h
    refine .exit <| .thx <| .thx <| .inb ?_
    cases h
    exact .finwn () (.r0 rfl) trivial (Ls.of (.cons .k2 (.cons .k2 (.cons .k0 (.cons .k1 (.cons .k1 (.cons .k1 .nil))))))) .nil
attribute [irreducible] client_Client_choose
noncomputable def disk_Disk_is_bx (a0 : Option disk_Disk) : Option (Bool) :=
  Option.bind (if a0.isSome = true then (Option.bind a0 fun (y7 : disk_Disk) => some y7.made) else (some false)) fun (y1 : Bool) => some y1
set_option maxRecDepth 20000 in
set_option maxHeartbeats 8000000 in
theorem S_disk_Disk_is_bx (v00 : Value) (a0 : Option disk_Disk) (r : Bool) (h : disk_Disk_is_bx a0 = some r) :
    SpecF Tryz.prog 203 [v00] [bx disk_Disk.bd disk_Disk.fp v00 a0] [] (fun z : Unit => True) (fun z => Bo r) (fun z M => bx disk_Disk.bd disk_Disk.fp v00 a0 ::  M) (fun z M =>  M) := by
  refine .of func203 rfl ntmps203 rfl fun w0 D0 G0 => ?_
  unfold disk_Disk_is_bx at h
  refine .seq <| .reg rfl <| .op0 (OpP.toV (P.asg .k)) rfl <| .nil <| .then ?_
  obtain ⟨y1, hj3, h⟩ := bnd_eq h
  refine .cutx (γ := Unit) (E1 := fun z2 => [(2, Bo y1)]) (L1 := fun z2 => [bx disk_Disk.bd disk_Disk.fp v00 a0]) (R1 := fun z2 => []) ?_ (fun z2 => ?_)
  · clear h
    refine .reg rfl <| .opp (P.mov .g0) rfl <| .fact .k0 (fun _ hh => bx_nil (P := Tryz.prog) (t := 104) (e := 155) (by kernel_rfl) hh) fun hq4 => .opp (P.bin .t0 .k hq4.2) rfl <| .opp (P.mov .t0) rfl <| .split .k0 (fun c5 => ?_) (fun c5 => ?_)
    · rw [if_pos c5] at hj3
      refine .gyes rfl .g0 <| .opp (P.mov .t1) rfl <| .gyes rfl .g1 ?_
      obtain ⟨y7, hy8, hj3⟩ := bnd_eq hj3
      refine .bxo .k0 hy8 (fun _ _ _ => rfl) fun ⟨b9, u10⟩ hz6 => ?_
      replace hz6 : v00 = pt b9 0 := hz6
      subst hz6
      refine .opp (P.nilc .t0) rfl <| .gyes rfl .g1 <| .opp (P.fa .t0 fa_155_3 rfl) rfl <| .gyes rfl .g1 <| .op (V.ld (v := Bo y7.made) .t0 .k0 (.one isAgg4 rfl)) rfl <| .opp (P.pickT .t1 .t0) rfl <| .opp (P.asg .t0) rfl <| .nil ?_
      cases hj3
      exact .bxc disk_Disk.bd disk_Disk.fp (b9, u10) y7 (z := (pt b9 0)) rfl (.cons .k0 (.cons .k0 .nil)) <| .conseq .k0 (q := bx disk_Disk.bd disk_Disk.fp (pt b9 0) a0) (fun _ h_ => by rw [hy8]; exact h_) <| .stj () (.cons Mm.m0 .nil) (.of (.cons .k0 .nil)) .nil
    · rw [if_neg (ne_true_of_eq_false c5)] at hj3
      refine .gno rfl .g0 rfl rfl <| .gno rfl .g0 rfl rfl <| .gno rfl .g0 rfl rfl <| .gno rfl .g0 rfl rfl <| .opp (P.pickF .t0 .k) rfl <| .opp (P.asg .t0) rfl <| .nil ?_
      cases hj3
      exact .stj () (.cons Mm.m0 .nil) (.of (.cons .k0 .nil)) .nil
  · clear hj3
    refine .ret ?_
    cases h
    exact .finw () (.r1 rfl (.tmp .g0)) trivial (Ls.of (.cons .k0 .nil)) .nil
attribute [irreducible] disk_Disk_is_bx
noncomputable def disk_Disk_Write_bx (a0 : Option disk_Disk) (a1 : List UInt8) : Option (Int × (Option disk_Disk)) :=
  Option.bind (disk_Disk_is_bx a0) fun r1 => if (!r1) = true then (some (9, a0)) else (Option.bind a0 fun (y5 : disk_Disk) => if (decide ((a1.length : Int) > (IntKind.i64.wrap (y5.room - (y5.b.length : Int))))) = true then (some (10, a0)) else (grd ((y5.b.length + a1.length) * 1 ≤ 140737488355328) <| some ((0, (some (⟨(y5.b ++ a1), y5.sure, y5.room, y5.made⟩ : disk_Disk))))))
set_option maxRecDepth 20000 in
set_option maxHeartbeats 8000000 in
theorem S_disk_Disk_Write_bx (v00 : Value) (a0 : Option disk_Disk) (v01 : Value) (a1 : List UInt8) (r : Int × (Option disk_Disk)) (h : disk_Disk_Write_bx a0 a1 = some r) :
    SpecF Tryz.prog 244 [v00, v01] [bx disk_Disk.bd disk_Disk.fp v00 a0] [rows 1 v01 (a1.map (fun x => [B8 x]))] (fun z : Unit => True) (fun z => N r.1) (fun z M => bx disk_Disk.bd disk_Disk.fp v00 r.2 ::  M) (fun z M =>  M) := by
  refine .of func244 rfl ntmps244 rfl fun w0 D0 G0 => ?_
  unfold disk_Disk_Write_bx at h
  refine .seq <| .reg rfl <| .op0 (OpP.toV (P.asg .k)) rfl <| .nil <| .then <| .seq <| .block <| .seq <| .reg rfl <| .opp (P.mov .g0) rfl ?_
  obtain ⟨r1, hr2, h⟩ := bnd_eq h
  refine .opg (G.call call203 (.cons .t0 .nil) (S_disk_Disk_is_bx v00 a0 r1 hr2) (.cons .k0 .nil) .nil (fun _ _ => rfl) (fun _ _ => rfl) rfl) rfl fun _ _ => .opp (P.not .t0) rfl <| .opp (P.asg .t0) rfl <| .nil <| .then <| .cond .t0 (fun c3 => ?_) (fun c3 => ?_)
  · rw [if_pos c3] at h
    refine .seq <| .reg rfl <| .opp (P.asg .k) rfl <| .nil <| .then <| .ret <| .inr <| .thr ?_
    cases h
    exact .finw () (.r1 rfl (.tmp .g0)) trivial (Ls.of (.cons .k0 .nil)) .nil
  · rw [if_neg (ne_true_of_eq_false c3)] at h
    refine .seq ?_
    obtain ⟨y5, hy6, h⟩ := bnd_eq h
    refine .bxo .k0 hy6 (fun _ _ _ => rfl) fun ⟨b7, u8⟩ hz4 => ?_
    replace hz4 : v00 = pt b7 0 := hz4
    subst hz4
    refine .draw 14 (.on 0 .pu (.on 2 .pu (.on 3 .pu (.on 4 .pu (.on 6 .pu (.on 7 .pu (.on 8 .pu (.on 1 .ld (.on 5 .ld (.on 9 .ld (.on 10 .ld (.on 11 .pu (.on 12 .pu (.on 13 .go .nl)))))))))))))) follows_mixed (.thn (.inb (.thn .body))) (by kernel_rfl) <| .dpu rfl (.n rfl) (P.mov .g1) rfl rfl <| .dpu rfl (.n rfl) (P.mov .g1) rfl rfl <| .dpu rfl (.n rfl) (P.nilc .t0) rfl rfl <| .dpu rfl (.n rfl) (P.fa .t0 fa_155_2 rfl) rfl rfl <| .dpu rfl (.n rfl) (P.mov .g2) rfl rfl <| .dpu rfl (.n rfl) (P.nilc .t0) rfl rfl <| .dpu rfl (.n rfl) (P.fa .t0 fa_155_0 rfl) rfl rfl <| .dld rfl (.n rfl) (V.lnr (n := a1.length) .t2 Mm.m0 map_len runUnderlying70) (fun _ h => h) rfl rfl <| .dld rfl (.n rfl) (V.ld (v := N y5.room) .t2 .k0 (.one isAgg3 rfl)) (fun _ h => h) rfl rfl <| .dld rfl (.n rfl) (V.ld (v := u8) .t2 .k0 (.one isAgg70 rfl)) (fun _ h => h) rfl rfl <| .dld rfl (.n rfl) (V.lnl (n := y5.b.length) .t0 .k1 map_len runUnderlying70) (fun _ h => h) rfl rfl ?_
    refine .dpu rfl (.n rfl) (P.bin .t1 .t0 .sub) rfl rfl <| .dpu rfl (.n rfl) (P.bin .t1 .t0 .gtr) rfl rfl <| .dgo rfl (.n rfl) (OpV.g (OpP.toV (P.asg .t0)) rfl) (.inr fun _ _ _ h => h) fun _ _ => .dnil <| .then <| .cond .t0 (fun c9 => ?_) (fun c9 => ?_)
    · rw [if_pos c9] at h
      refine .seq <| .reg rfl <| .opp (P.asg .k) rfl <| .nil <| .then <| .ret <| .inr <| .thr ?_
      cases h
      exact .bxc disk_Disk.bd disk_Disk.fp (b7, u8) y5 (z := (pt b7 0)) rfl (.cons .k0 (.cons .k0 .nil)) <| .conseq .k0 (q := bx disk_Disk.bd disk_Disk.fp (pt b7 0) a0) (fun _ h_ => by rw [hy6]; exact h_) <| .finw () (.r1 rfl (.tmp .g0)) trivial (Ls.of (.cons .k0 .nil)) .nil
    · rw [if_neg (ne_true_of_eq_false c9)] at h
      refine .skip <| .inn <| .then <| .seq <| .reg rfl <| .opp (P.mov .g0) rfl <| .opp (P.mov .t1) rfl <| .opp (P.nilc .t0) rfl <| .opp (P.fa .t0 fa_155_0 rfl) rfl <| .op (V.ld (v := u8) .t0 .k0 (.one isAgg70 rfl)) rfl <| .opp (P.mov .t2) rfl ?_
      obtain ⟨hb11, h⟩ := grd_eq h
      refine .opg (G.app (by_ := 1) .t1 .t0 .k1 (.inl Mm.m0) runUnderlying70 runUnderlying70 sizeOf5 typeInfo5 rfl rfl zeroValue5 rfl (one_map one_5 _) (by simpa using hb11) rfl) rfl fun u10 _ => .conseq .k0 (q := lst 5 1 u10 ((y5.b ++ a1).map (fun x => [B8 x]))) (fun _ hh => by simpa [List.map_append] using hh) <| .opp (P.nilc .t1) rfl <| .opp (P.fa .t0 fa_155_0 rfl) rfl <| .onel .k0 fun ho12 => .opg (G.str .t1 .t0 .k1 (.mk1 (cs' := (disk_Disk.cs ⟨[], y5.sure, y5.room, y5.made⟩ u10)) sizeOf70 rfl ho12 rfl rfl)) rfl fun _ _ => .nil <| .then <| .seq <| .reg rfl <| .opp (P.asg .k) rfl <| .nil ?_
      refine .then <| .ret ?_
      cases h
      exact .bxc disk_Disk.bd disk_Disk.fp (b7, u10) (⟨(y5.b ++ a1), y5.sure, y5.room, y5.made⟩ : disk_Disk) (z := (pt b7 0)) rfl (.cons .k0 (.cons .k0 .nil)) <| .finw () (.r1 rfl (.tmp .g0)) trivial (Ls.of (.cons .k0 .nil)) .nil
attribute [irreducible] disk_Disk_Write_bx
noncomputable def journal_Append_bx_n0 (a0 : Option disk_Disk) : Option (Int × (Option disk_Disk)) :=
  Option.bind (disk_Disk_Write_bx a0 ([] : List UInt8)) fun r1 => if (decide (r1.1 ≠ 0)) = true then (some (r1.1, r1.2)) else (Option.bind (disk_Disk_Write_bx r1.2 ([] : List UInt8)) fun r4 => some (r4.1, r4.2))
set_option maxRecDepth 20000 in
set_option maxHeartbeats 8000000 in
theorem S_journal_Append_bx_n0 (v00 : Value) (a0 : Option disk_Disk) (v01 : Value) (r : Int × (Option disk_Disk)) (h : journal_Append_bx_n0 a0 = some r) :
    SpecF Tryz.prog 166 [v00, v01] [bx disk_Disk.bd disk_Disk.fp v00 a0] [rows 1 v01 []] (fun z : Unit => True) (fun z => N r.1) (fun z M => bx disk_Disk.bd disk_Disk.fp v00 r.2 ::  M) (fun z M =>  M) := by
  refine .of func166 rfl ntmps166 rfl fun w0 D0 G0 => ?_
  unfold journal_Append_bx_n0 at h
  refine .seq <| .reg rfl <| .op0 (OpP.toV (P.asg .k)) rfl <| .nil <| .then <| .seq <| .seq <| .reg rfl <| .opp (P.mov .g0) rfl <| .rnil0 1 ?_
  obtain ⟨r1, hr2, h⟩ := bnd_eq h
  refine .opg (G.call call244 (.cons .t0 (.cons .k .nil)) (S_disk_Disk_Write_bx v00 a0 nilSl ([] : List UInt8) r1 hr2) (.cons .k0 .nil) (.cons Mm.m0 .nil) (fun _ _ => rfl) (fun _ _ => rfl) rfl) rfl fun _ _ => .opp (P.asg .t0) rfl <| .nil <| .then <| .seq <| .reg rfl <| .opp (P.mov .g0) rfl <| .opp (P.bin .t0 .k .neq) rfl <| .nil <| .then <| .cond .t0 (fun c3 => ?_) (fun c3 => ?_)
  · rw [if_pos c3] at h
    refine .seq <| .reg rfl <| .opp (P.mov .t0) rfl <| .opp (P.asg .t0) rfl <| .nil <| .then <| .ret <| .thr ?_
    cases h
    exact .finw () (.r1 rfl (.tmp .g0)) trivial (Ls.of (.cons .k0 .nil)) .nil
  · rw [if_neg (ne_true_of_eq_false c3)] at h
    refine .skip <| .then <| .seq <| .reg rfl <| .opp (P.asg .k) rfl <| .nil <| .then <| .seq <| .seq <| .reg rfl <| .opp (P.mov .t3) rfl <| .op (V.lnr (n := 0) .g0 Mm.m1 rfl runUnderlying116) rfl ?_
    refine .opp (P.mov .k) rfl <| .nil <| .then <| .block <| .rounds 1 <| .rd <| .seq <| .reg rfl <| .opp (P.bin (v := Bo false) .g0 .g1 (BinV.lss.boolc (by decide))) rfl <| .nil <| .then <| .seq ?_
    refine .condF .t0 <| .exit <| .thx <| .thx <| .inb <| .then <| .seq <| .reg rfl <| .opp (P.mov .t5) rfl <| .opp (P.mov .t4) rfl ?_
    obtain ⟨r4, hr5, h⟩ := bnd_eq h
    refine .opg (G.call call244 (.cons .t1 (.cons .t0 .nil)) (S_disk_Disk_Write_bx v00 r1.2 nilSl ([] : List UInt8) r4 hr5) (.cons .k0 .nil) (.cons Mm.m0 .nil) (fun _ _ => rfl) (fun _ _ => rfl) rfl) rfl fun _ _ => .opp (P.asg .t0) rfl <| .nil <| .then <| .ret ?_
    cases h
    exact .finw () (.r1 rfl (.tmp .g0)) trivial (Ls.of (.cons .k0 .nil)) .nil
attribute [irreducible] journal_Append_bx_n0
noncomputable def client_Client_look_bx_bx_bx (a0 : Option client_Client) (a1 : Option chain_Chain) (a2 : Option chain_Chain) : Option (client_out × Int × (Option client_Client)) :=
  Option.bind a0 fun (y3 : client_Client) => Option.bind (chain_Chain_Time_bx a1) fun r11 => Option.bind (client_Client_choose (⟨y3.user, y3.d, y3.root, y3.roots, y3.room, y3.disk, y3.deals, y3.down, y3.made, ⟨(), [], []⟩⟩ : client_Client) r11) fun r13 => Option.bind (journal_Append_bx_n0 y3.disk) fun r15 => some (((⟨(), [], []⟩ : client_out), r15.1, (some (⟨y3.user, y3.d, y3.root, y3.roots, y3.room, r15.2, y3.deals, y3.down, y3.made, ⟨(), [], []⟩⟩ : client_Client))))
set_option maxRecDepth 20000 in
set_option maxHeartbeats 8000000 in
theorem S_client_Client_look_bx_bx_bx (v00 : Value) (a0 : Option client_Client) (v01 : Value) (a1 : Option chain_Chain) (v02 : Value) (a2 : Option chain_Chain) (r : client_out × Int × (Option client_Client)) (h : client_Client_look_bx_bx_bx a0 a1 a2 = some r) :
    SpecF Tryz.prog 135 [v00, v01, v02] [bx client_Client.bd client_Client.fp v00 a0, bx chain_Chain.bd chain_Chain.fp v01 a1, bx chain_Chain.bd chain_Chain.fp v02 a2] [] (fun z : Value × Value => True) (fun z => Tu [Ag (client_out.cs r.1 z.1 z.2), N r.2.1]) (fun z M => bx client_Client.bd client_Client.fp v00 r.2.2 :: bx chain_Chain.bd chain_Chain.fp v01 a1 :: bx chain_Chain.bd chain_Chain.fp v02 a2 :: lst 176 43 z.1 (r.1.mail.map api_Message.cs) :: lst 181 26 z.2 (r.1.sends.map api_Send.cs) ::  M) (fun z M =>  M) := by
  refine .of func135 rfl ntmps135 rfl fun w0 D0 G0 => ?_
  unfold client_Client_look_bx_bx_bx at h
  refine .seq <| .reg rfl <| .opx (X.alc (cs := (client_out.cs ⟨(), [], []⟩ nilSl nilSl)) zeroValue120 rfl) rfl fun b1 => .op0 (OpP.toV (P.asg .k)) rfl <| .nil <| .then <| .seq <| .reg rfl <| .opp (P.mov .g1) rfl <| .opp (P.bld (v := Ag (client_out.cs ⟨(), [], []⟩ nilSl nilSl)) .nil (bld_run zeroValue120 runUnderlying120 pl_120 (by kernel_rfl))) rfl ?_
  obtain ⟨y3, hy4, h⟩ := bnd_eq h
  refine .bxo .k1 hy4 (fun _ _ _ => rfl) fun ⟨b5, u6, u7, u8, u9, u10⟩ hz2 => ?_
  replace hz2 : v00 = pt b5 0 := hz2
  subst hz2
  refine .opp (P.nilc .t1) rfl <| .opp (P.fa .t0 fa_122_9 rfl) rfl <| .opg (G.str .t1 .t0 .k0 (.mk (cs' := (client_Client.cs ⟨y3.user, y3.d, y3.root, y3.roots, y3.room, y3.disk, y3.deals, y3.down, y3.made, ⟨(), [], []⟩⟩ u6 u7 u8 nilSl nilSl)) sizeOf120 rfl (onez_120 (⟨(), [], []⟩ : client_out) rfl rfl) rfl rfl)) rfl fun _ _ => .nil <| .then <| .seq <| .reg rfl <| .opp (P.mov .g1) rfl <| .opp (P.mov .g3) rfl ?_
  obtain ⟨r11, hr12, h⟩ := bnd_eq h
  refine .opg (G.call call95 (.cons .t0 .nil) (S_chain_Chain_Time_bx v01 a1 r11 hr12) (.cons .k7 .nil) .nil (fun _ _ => rfl) (fun _ _ => rfl) rfl) rfl fun _ _ => .lnil 176 43 <| .lnil 181 26 ?_
  obtain ⟨r13, hr14, h⟩ := bnd_eq h
  refine .opg (G.call call198 (.cons .t1 (.cons .t0 .nil)) (S_client_Client_choose b5 (⟨y3.user, y3.d, y3.root, y3.roots, y3.room, y3.disk, y3.deals, y3.down, y3.made, ⟨(), [], []⟩⟩ : client_Client) u6 u7 u8 nilSl nilSl r11 r13 hr14) (.cons .k3 (.cons .k3 (.cons .k3 (.cons .k3 (.cons .k1 (.cons .k0 .nil)))))) .nil (fun _ _ => rfl) (fun _ _ => rfl) rfl) rfl fun _ _ => .drop .k0 <| .nil <| .then <| .seq <| .seq <| .reg rfl <| .opp (P.mov .g1) rfl <| .opp (P.nilc .t0) rfl <| .opp (P.fa .t0 fa_122_6 rfl) rfl <| .op (V.ld (v := nilSl) .t0 .k0 (.one isAgg115 rfl)) rfl <| .opp (P.lenn .g0 runUnderlying115) rfl ?_
  refine .opp (P.mov .k) rfl <| .nil <| .then <| .block <| .rounds 1 <| .rd <| .seq <| .reg rfl <| .opp (P.bin (v := Bo false) .g0 .g1 (BinV.lss.boolc (by decide))) rfl <| .nil <| .then <| .seq ?_
  refine .condF .t0 <| .exit <| .thx <| .thx <| .inb <| .then <| .seq <| .drawl [blk b5 122 (client_Client.cs ⟨y3.user, y3.d, y3.root, y3.roots, y3.room, y3.disk, y3.deals, y3.down, y3.made, ⟨(), [], []⟩⟩ u6 u7 u8 nilSl nilSl), lst 9 1 u6 (y3.roots.map (fun x => [.string x])), bx auction_Room.bd auction_Room.fp u7 y3.room, lst 176 43 nilSl [], lst 181 26 nilSl [], bx chain_Chain.bd chain_Chain.fp v01 a1, lst 176 43 u9 (y3.out.mail.map api_Message.cs), lst 181 26 u10 (y3.out.sends.map api_Send.cs), blk b1 120 (client_out.cs ⟨(), [], []⟩ nilSl nilSl), bx chain_Chain.bd chain_Chain.fp v02 a2] [] (Ls.of (.cons .k0 (.cons .k0 (.cons .k0 (.cons .k1 (.cons .k1 (.cons .k1 (.cons .k1 (.cons .k1 (.cons .k1 (.cons .k1 .nil))))))))))) Rs.nil 16 (.on 0 .pu (.on 1 .pu (.on 2 .pu (.on 4 .pu (.on 5 .pu (.on 6 .pu (.on 8 .pu (.on 9 .pu (.on 10 .pu (.on 11 .pu (.on 3 .ld (.on 7 .ld (.on 12 .ld (.on 13 .go (.on 14 .go (.on 15 .go .nl)))))))))))))))) follows_mixed (.thn .body) (by kernel_rfl) <| .dpu rfl (.n rfl) (P.mov .g4) rfl rfl <| .dpu rfl (.n rfl) (P.nilc .t0) rfl rfl <| .dpu rfl (.n rfl) (P.fa .t0 fa_122_9 rfl) rfl rfl <| .dpu rfl (.n rfl) (P.mov .g5) rfl rfl ?_
  refine .dpu rfl (.n rfl) (P.nilc .t0) rfl rfl <| .dpu rfl (.n rfl) (P.fa .t0 fa_122_5 rfl) rfl rfl <| .dpu rfl (.n rfl) (P.mov .t6) rfl rfl <| .dpu rfl (.n rfl) (P.nilc .t0) rfl rfl <| .dpu rfl (.n rfl) (P.fa .t0 fa_122_9 rfl) rfl rfl <| .dpu rfl (.n rfl) (P.fa .t0 fa_120_0 rfl) rfl rfl <| .dld rfl (.n rfl) (V.ld (v := Ag (client_out.cs ⟨(), [], []⟩ nilSl nilSl)) .t2 .k0 (.agg isAgg120 sizeOf120 rfl rfl)) (fun _ h => (h.imp (Ls.of (.cons .k0 (.cons .k0 (.cons .k0 (.cons .k1 (.cons .k1 (.cons .k1 (.cons .k1 (.cons .k1 (.cons .k1 (.cons .k1 .nil)))))))))))).ro Rs.nil) rfl rfl <| .dld rfl (.n rfl) (V.ld (v := u8) .t2 .k0 (.one isAgg104 rfl)) (fun _ h => (h.imp (Ls.of (.cons .k0 (.cons .k0 (.cons .k0 (.cons .k1 (.cons .k1 (.cons .k1 (.cons .k1 (.cons .k1 (.cons .k1 (.cons .k1 .nil)))))))))))).ro Rs.nil) rfl rfl <| .dld rfl (.n rfl) (V.ld (v := nilSl) .t2 .k0 (.one isAgg116 rfl)) (fun _ h => (h.imp (Ls.of (.cons .k0 (.cons .k0 (.cons .k0 (.cons .k1 (.cons .k1 (.cons .k1 (.cons .k1 (.cons .k1 (.cons .k1 (.cons .k1 .nil)))))))))))).ro Rs.nil) rfl rfl <| .rnil0 1 ?_
  obtain ⟨r15, hr16, h⟩ := bnd_eq h
  refine .dgo rfl (.n rfl) (G.call call166 (.cons .t1 (.cons .t0 .nil)) (S_journal_Append_bx_n0 u8 y3.disk nilSl r15 hr16) (.cons .k3 .nil) (.cons Mm.m0 .nil) (fun _ _ => rfl) (fun _ _ => rfl) rfl) (.inr fun _ _ _ h => (h.imp (Ls.of (.cons .k1 (.cons .k1 (.cons .k1 (.cons .k1 (.cons .k1 (.cons .k1 (.cons .k1 (.cons .k1 (.cons .k1 (.cons .k1 .nil)))))))))))).ro Rs.nil) fun _ _ => .dgo rfl (.n rfl) (G.str .t1 .g4 .k9 (.mk (cs' := (client_out.cs ⟨(), [], []⟩ nilSl nilSl)) sizeOf120 rfl (onez_120 (⟨(), [], []⟩ : client_out) rfl rfl) rfl rfl)) (.inr fun _ _ _ h => (h.imp (Ls.of (.cons .k2 (.cons .k2 (.cons .k2 (.cons .k2 (.cons .k2 (.cons .k2 (.cons .k2 (.cons .k2 (.cons .k0 (.cons .k1 .nil)))))))))))).ro Rs.nil) fun _ _ => .dgo rfl (.n rfl) (OpV.g (OpP.toV (P.asg .t0)) rfl) (.inr fun _ _ _ h => (h.imp (Ls.of (.cons .k2 (.cons .k2 (.cons .k2 (.cons .k2 (.cons .k2 (.cons .k2 (.cons .k2 (.cons .k2 (.cons .k0 (.cons .k1 .nil)))))))))))).ro Rs.nil) fun _ _ => .dnil <| .then <| .ret ?_
  cases h
  exact .bxc client_Client.bd client_Client.fp (b5, u6, u7, u8, nilSl, nilSl) (⟨y3.user, y3.d, y3.root, y3.roots, y3.room, r15.2, y3.deals, y3.down, y3.made, ⟨(), [], []⟩⟩ : client_Client) (z := (pt b5 0)) rfl (.cons .k2 (.cons .k2 (.cons .k2 (.cons .k1 (.cons .k1 (.cons .k1 .nil)))))) <| .lnil 176 43 <| .lnil 181 26 <| .finw ⟨nilSl, nilSl⟩ (.r2 rfl (.cell .g4 .k3 (.agg isAgg120 sizeOf120 rfl rfl)) (.tmp .g0)) trivial (Ls.of (.cons .k2 (.cons .k3 (.cons .k5 (.cons .k1 (.cons .k0 .nil)))))) .nil
attribute [irreducible] client_Client_look_bx_bx_bx
noncomputable def disk_Disk_Fresh_bx (a0 : Option disk_Disk) : Option (Int) :=
  Option.bind (disk_Disk_is_bx a0) fun r1 => if (!r1) = true then (some 0) else (Option.bind a0 fun (y5 : disk_Disk) => some (IntKind.i64.wrap ((y5.b.length : Int) - y5.sure)))
set_option maxRecDepth 20000 in
set_option maxHeartbeats 8000000 in
theorem S_disk_Disk_Fresh_bx (v00 : Value) (a0 : Option disk_Disk) (r : Int) (h : disk_Disk_Fresh_bx a0 = some r) :
    SpecF Tryz.prog 202 [v00] [bx disk_Disk.bd disk_Disk.fp v00 a0] [] (fun z : Unit => True) (fun z => N r) (fun z M => bx disk_Disk.bd disk_Disk.fp v00 a0 ::  M) (fun z M =>  M) := by
  refine .of func202 rfl ntmps202 rfl fun w0 D0 G0 => ?_
  unfold disk_Disk_Fresh_bx at h
  refine .seq <| .reg rfl <| .op0 (OpP.toV (P.asg .k)) rfl <| .nil <| .then <| .seq <| .seq <| .reg rfl <| .opp (P.mov .g0) rfl ?_
  obtain ⟨r1, hr2, h⟩ := bnd_eq h
  refine .opg (G.call call203 (.cons .t0 .nil) (S_disk_Disk_is_bx v00 a0 r1 hr2) (.cons .k0 .nil) .nil (fun _ _ => rfl) (fun _ _ => rfl) rfl) rfl fun _ _ => .opp (P.not .t0) rfl <| .nil <| .then <| .cond .t0 (fun c3 => ?_) (fun c3 => ?_)
  · rw [if_pos c3] at h
    refine .seq <| .reg rfl <| .opp (P.asg .k) rfl <| .nil <| .then <| .ret <| .thr ?_
    cases h
    exact .finw () (.r1 rfl (.tmp .g0)) trivial (Ls.of (.cons .k0 .nil)) .nil
  · rw [if_neg (ne_true_of_eq_false c3)] at h
    refine .skip <| .then <| .seq ?_
    obtain ⟨y5, hy6, h⟩ := bnd_eq h
    refine .bxo .k0 hy6 (fun _ _ _ => rfl) fun ⟨b7, u8⟩ hz4 => ?_
    replace hz4 : v00 = pt b7 0 := hz4
    subst hz4
    refine .draw 11 (.on 0 .pu (.on 1 .pu (.on 2 .pu (.on 5 .pu (.on 6 .pu (.on 7 .pu (.on 3 .ld (.on 4 .ld (.on 8 .ld (.on 9 .pu (.on 10 .go .nl))))))))))) follows_mixed (.thn .body) (by kernel_rfl) <| .dpu rfl (.n rfl) (P.mov .g0) rfl rfl <| .dpu rfl (.n rfl) (P.nilc .t0) rfl rfl <| .dpu rfl (.n rfl) (P.fa .t0 fa_155_0 rfl) rfl rfl <| .dpu rfl (.n rfl) (P.mov .t1) rfl rfl <| .dpu rfl (.n rfl) (P.nilc .t0) rfl rfl <| .dpu rfl (.n rfl) (P.fa .t0 fa_155_1 rfl) rfl rfl <| .dld rfl (.n rfl) (V.ld (v := u8) .t1 .k0 (.one isAgg70 rfl)) (fun _ h => h) rfl rfl <| .dld rfl (.n rfl) (V.lnl (n := y5.b.length) .t0 .k1 map_len runUnderlying70) (fun _ h => h) rfl rfl <| .dld rfl (.n rfl) (V.ld (v := N y5.sure) .t1 .k0 (.one isAgg3 rfl)) (fun _ h => h) rfl rfl <| .dpu rfl (.n rfl) (P.bin .t1 .t0 .sub) rfl rfl <| .dgo rfl (.n rfl) (OpV.g (OpP.toV (P.asg .t0)) rfl) (.inr fun _ _ _ h => h) fun _ _ => ?_
    refine .dnil <| .then <| .ret ?_
    cases h
    exact .bxc disk_Disk.bd disk_Disk.fp (b7, u8) y5 (z := (pt b7 0)) rfl (.cons .k0 (.cons .k0 .nil)) <| .conseq .k0 (q := bx disk_Disk.bd disk_Disk.fp (pt b7 0) a0) (fun _ h_ => by rw [hy6]; exact h_) <| .finw () (.r1 rfl (.tmp .g0)) trivial (Ls.of (.cons .k0 .nil)) .nil
attribute [irreducible] disk_Disk_Fresh_bx
noncomputable def disk_Disk_Sync_bx (a0 : Option disk_Disk) : Option (Int × (Option disk_Disk)) :=
  Option.bind (disk_Disk_Fresh_bx a0) fun r1 => Option.bind (Option.bind (disk_Disk_is_bx a0) fun r6 => if r6 = true then (Option.bind a0 fun (y10 : disk_Disk) => some ((some (⟨y10.b, IntKind.i64.wrap (y10.sure + r1), y10.room, y10.made⟩ : disk_Disk)))) else (some a0)) fun (y3 : (Option disk_Disk)) => some (r1, y3)
set_option maxRecDepth 20000 in
set_option maxHeartbeats 8000000 in
theorem S_disk_Disk_Sync_bx (v00 : Value) (a0 : Option disk_Disk) (r : Int × (Option disk_Disk)) (h : disk_Disk_Sync_bx a0 = some r) :
    SpecF Tryz.prog 137 [v00] [bx disk_Disk.bd disk_Disk.fp v00 a0] [] (fun z : Unit => True) (fun z => N r.1) (fun z M => bx disk_Disk.bd disk_Disk.fp v00 r.2 ::  M) (fun z M =>  M) := by
  refine .of func137 rfl ntmps137 rfl fun w0 D0 G0 => ?_
  unfold disk_Disk_Sync_bx at h
  refine .seq <| .reg rfl <| .op0 (OpP.toV (P.asg .k)) rfl <| .nil <| .then <| .seq <| .reg rfl <| .opp (P.mov .g0) rfl ?_
  obtain ⟨r1, hr2, h⟩ := bnd_eq h
  refine .opg (G.call call202 (.cons .t0 .nil) (S_disk_Disk_Fresh_bx v00 a0 r1 hr2) (.cons .k0 .nil) .nil (fun _ _ => rfl) (fun _ _ => rfl) rfl) rfl fun _ _ => .opp (P.asg .t0) rfl <| .nil <| .then ?_
  obtain ⟨y3, hj5, h⟩ := bnd_eq h
  refine .cutx (γ := Unit) (E1 := fun z4 => [(3, N r1)]) (L1 := fun z4 => [bx disk_Disk.bd disk_Disk.fp v00 y3]) (R1 := fun z4 => []) ?_ (fun z4 => ?_)
  · clear h
    refine .seq <| .reg rfl <| .opp (P.mov .g1) rfl ?_
    obtain ⟨r6, hr7, hj5⟩ := bnd_eq hj5
    refine .opg (G.call call203 (.cons .t0 .nil) (S_disk_Disk_is_bx v00 a0 r6 hr7) (.cons .k0 .nil) .nil (fun _ _ => rfl) (fun _ _ => rfl) rfl) rfl fun _ _ => .nil <| .then <| .cond .t0 (fun c8 => ?_) (fun c8 => ?_)
    · rw [if_pos c8] at hj5
      refine .reg rfl <| .opp (P.mov .t1) rfl ?_
      obtain ⟨y10, hy11, hj5⟩ := bnd_eq hj5
      refine .bxo .k0 hy11 (fun _ _ _ => rfl) fun ⟨b12, u13⟩ hz9 => ?_
      replace hz9 : v00 = pt b12 0 := hz9
      subst hz9
      refine .opp (P.nilc .g0) rfl <| .opp (P.fa .t0 fa_155_1 rfl) rfl <| .op (V.ld (v := N y10.sure) .t0 .k0 (.one isAgg3 rfl)) rfl <| .opp (P.mov .g2) rfl <| .opp (P.bin .t1 .t0 .add) rfl <| .opp (P.nilc .t1) rfl <| .opp (P.fa .t0 fa_155_1 rfl) rfl <| .opg (G.str .t1 .t0 .k0 (.mk (cs' := (disk_Disk.cs ⟨y10.b, IntKind.i64.wrap (y10.sure + r1), y10.room, y10.made⟩ u13)) sizeOf3 rfl rfl rfl rfl)) rfl fun _ _ => .nil ?_
      cases hj5
      exact .bxc disk_Disk.bd disk_Disk.fp (b12, u13) (⟨y10.b, IntKind.i64.wrap (y10.sure + r1), y10.room, y10.made⟩ : disk_Disk) (z := (pt b12 0)) rfl (.cons .k0 (.cons .k0 .nil)) <| .stj () (.cons Mm.m0 .nil) (.of (.cons .k0 .nil)) .nil
    · rw [if_neg (ne_true_of_eq_false c8)] at hj5
      refine .skip ?_
      cases hj5
      exact .stj () (.cons Mm.m0 .nil) (.of (.cons .k0 .nil)) .nil
  · clear hj5
    refine .seq <| .reg rfl <| .opp (P.mov .t0) rfl <| .opp (P.asg .t0) rfl <| .nil <| .then <| .ret ?_
    cases h
    exact .finw () (.r1 rfl (.tmp .g0)) trivial (Ls.of (.cons .k0 .nil)) .nil
attribute [irreducible] disk_Disk_Sync_bx
noncomputable def client_Client_Look_bx_bx_bx (a0 : Option client_Client) (a1 : Option chain_Chain) (a2 : Option chain_Chain) : Option ((List api_Message) × (List api_Send) × (Option client_Client)) :=
  Option.bind (client_Client_up_bx a0) fun r1 => if (decide (r1 ≠ 0)) = true then (some ((([] : List api_Message), ([] : List api_Send), a0))) else (Option.bind (client_Client_look_bx_bx_bx a0 a1 a2) fun r4 => if (decide (r4.2.1 ≠ 0)) = true then none else (Option.bind r4.2.2 fun (y13 : client_Client) => Option.bind (disk_Disk_Sync_bx y13.disk) fun r21 => some ((r4.1.mail, r4.1.sends, (some (⟨y13.user, y13.d, y13.root, y13.roots, y13.room, r21.2, y13.deals, y13.down, y13.made, y13.out⟩ : client_Client))))))
set_option maxRecDepth 20000 in
set_option maxHeartbeats 8000000 in
theorem S_client_Client_Look_bx_bx_bx (v00 : Value) (a0 : Option client_Client) (v01 : Value) (a1 : Option chain_Chain) (v02 : Value) (a2 : Option chain_Chain) (r : (List api_Message) × (List api_Send) × (Option client_Client)) (h : client_Client_Look_bx_bx_bx a0 a1 a2 = some r) :
    SpecF Tryz.prog 78 [v00, v01, v02] [bx client_Client.bd client_Client.fp v00 a0, bx chain_Chain.bd chain_Chain.fp v01 a1, bx chain_Chain.bd chain_Chain.fp v02 a2] [] (fun z : Value × Value => True) (fun z => Tu [z.1, z.2]) (fun z M => bx client_Client.bd client_Client.fp v00 r.2.2 :: bx chain_Chain.bd chain_Chain.fp v01 a1 :: bx chain_Chain.bd chain_Chain.fp v02 a2 :: lst 176 43 z.1 (r.1.map api_Message.cs) :: lst 181 26 z.2 (r.2.1.map api_Send.cs) ::  M) (fun z M =>  M) := by
  refine .of func78 rfl ntmps78 rfl fun w0 D0 G0 => ?_
  unfold client_Client_Look_bx_bx_bx at h
  refine .seq <| .reg rfl <| .op0 (OpP.toV (P.asg .k)) rfl <| .op0 (OpP.toV (P.asg .k)) rfl <| .nil <| .then <| .seq <| .seq <| .reg rfl <| .opp (P.mov .g0) rfl ?_
  obtain ⟨r1, hr2, h⟩ := bnd_eq h
  refine .opg (G.call call134 (.cons .t0 .nil) (S_client_Client_up_bx v00 a0 r1 hr2) (.cons .k0 .nil) .nil (fun _ _ => rfl) (fun _ _ => rfl) rfl) rfl fun _ _ => .opp (P.bin .t0 .k .neq) rfl <| .nil <| .then <| .cond .t0 (fun c3 => ?_) (fun c3 => ?_)
  · rw [if_pos c3] at h
    refine .seq <| .reg rfl <| .opp (P.asg .k) rfl <| .opp (P.asg .k) rfl <| .nil <| .then <| .ret <| .thr ?_
    cases h
    exact .lnil 176 43 <| .lnil 181 26 <| .finw ⟨nilSl, nilSl⟩ (.r2 rfl (.tmp .g1) (.tmp .g0)) trivial (Ls.of (.cons .k2 (.cons .k2 (.cons .k2 (.cons .k1 (.cons .k0 .nil)))))) .nil
  · rw [if_neg (ne_true_of_eq_false c3)] at h
    refine .skip <| .then <| .seq <| .reg rfl <| .opp (P.mov .g0) rfl <| .opp (P.mov .t2) rfl <| .opp (P.mov .t3) rfl ?_
    obtain ⟨r4, hr5, h⟩ := bnd_eq h
    refine .opg (G.call call135 (.cons .t2 (.cons .t1 (.cons .t0 .nil))) (S_client_Client_look_bx_bx_bx v00 a0 v01 a1 v02 a2 r4 hr5) (.cons .k0 (.cons .k0 (.cons .k0 .nil))) .nil (fun _ _ => rfl) (fun _ _ => rfl) rfl) rfl fun ⟨u6, u7⟩ _ => .opp (P.mov .t0) rfl <| .opp (P.ext (v := Ag (client_out.cs r4.1 u6 u7)) .g0 rfl) rfl <| .opp (P.ext (v := N r4.2.1) .t1 rfl) rfl <| .opx (X.alc (cs := (client_out.cs ⟨(), [], []⟩ nilSl nilSl)) zeroValue120 rfl) rfl fun b8 => .onel .k4 fun ho9 => .onel .k5 fun ho10 => .opg (G.str .t2 .g0 .k0 (.mk (cs' := (client_out.cs r4.1 u6 u7)) sizeOf120 rfl (onez_120 (r4.1 : client_out) ho9 ho10) rfl rfl)) rfl fun _ _ => .opp (P.asg .t1) rfl <| .nil <| .then <| .seq ?_
    refine .seq <| .reg rfl <| .opp (P.mov .t0) rfl <| .opp (P.bin .t0 .k .neq) rfl <| .nil <| .then <| .cond .t0 (fun c11 => ?_) (fun c11 => ?_)
    · rw [if_pos c11] at h
      refine .seq <| .reg rfl <| .opp (P.mov .t1) rfl ?_
      cases h
    · rw [if_neg (ne_true_of_eq_false c11)] at h
      refine .skip <| .then <| .seq <| .reg rfl <| .opp (P.mov .t1) rfl ?_
      obtain ⟨y13, hy14, h⟩ := bnd_eq h
      refine .bxo .k1 hy14 (fun _ _ _ => rfl) fun ⟨b15, u16, u17, u18, u19, u20⟩ hz12 => ?_
      replace hz12 : v00 = pt b15 0 := hz12
      subst hz12
      refine .opp (P.nilc .t0) rfl <| .opp (P.fa .t0 fa_122_5 rfl) rfl <| .op (V.ld (v := u18) .t0 .k0 (.one isAgg104 rfl)) rfl ?_
      obtain ⟨r21, hr22, h⟩ := bnd_eq h
      refine .opg (G.call call137 (.cons .t0 .nil) (S_disk_Disk_Sync_bx u18 y13.disk r21 hr22) (.cons .k3 .nil) .nil (fun _ _ => rfl) (fun _ _ => rfl) rfl) rfl fun _ _ => .drop .k0 <| .nil <| .then <| .seq <| .draw 6 (.on 0 .pu (.on 2 .pu (.on 1 .ld (.on 3 .ld (.on 4 .go (.on 5 .go .nl)))))) follows_mixed (.thn .body) (by kernel_rfl) <| .dpu rfl (.n rfl) (P.fa .g0 fa_120_1 rfl) rfl rfl <| .dpu rfl (.n rfl) (P.fa .t1 fa_120_2 rfl) rfl rfl <| .dld rfl (.n rfl) (V.ld (v := u6) .t1 .k6 (.one isAgg117 rfl)) (fun _ h => h) rfl rfl <| .dld rfl (.n rfl) (V.ld (v := u7) .t1 .k6 (.one isAgg118 rfl)) (fun _ h => h) rfl rfl <| .dgo rfl (.n rfl) (OpV.g (OpP.toV (P.asg .t1)) rfl) (.inr fun _ _ _ h => h) fun _ _ => .dgo rfl (.n rfl) (OpV.g (OpP.toV (P.asg .t1)) rfl) (.inr fun _ _ _ h => h) fun _ _ => ?_
      refine .dnil <| .then <| .ret ?_
      cases h
      exact .bxc client_Client.bd client_Client.fp (b15, u16, u17, u18, u19, u20) (⟨y13.user, y13.d, y13.root, y13.roots, y13.room, r21.2, y13.deals, y13.down, y13.made, y13.out⟩ : client_Client) (z := (pt b15 0)) rfl (.cons .k1 (.cons .k1 (.cons .k1 (.cons .k0 (.cons .k0 (.cons .k0 .nil)))))) <| .finw ⟨u6, u7⟩ (.r2 rfl (.tmp .g1) (.tmp .g0)) trivial (Ls.of (.cons .k0 (.cons .k1 (.cons .k1 (.cons .k1 (.cons .k1 .nil)))))) .nil
attribute [irreducible] client_Client_Look_bx_bx_bx
noncomputable def world_World_send (a0 : world_World) (a1 : Int) (a2 : List api_Send) : Option (Unit) :=
  if (decide (0 < (a2.length : Int))) = true then (Option.bind (at_ a2 0) fun (x5 : api_Send) => none) else (some ())
set_option maxRecDepth 20000 in
set_option maxHeartbeats 8000000 in
theorem S_world_World_send (b00 : Nat) (a0 : world_World) (z00a z00b z00c z00d z00e z00f z00g z00h z00i z00j z00k : Value) (a1 : Int) (v02 : Value) (a2 : List api_Send) (r : Unit) (h : world_World_send a0 a1 a2 = some r) :
    SpecF Tryz.prog 80 [pt b00 0, N a1, v02] [blk b00 58 (world_World.cs a0 z00a z00b z00c z00d z00e z00f z00g z00h z00i z00j z00k), bx chain_Chain.bd chain_Chain.fp z00a a0.sides.a0, bx chain_Chain.bd chain_Chain.fp z00b a0.sides.a1, bx client_Client.bd client_Client.fp z00c a0.clients.a0, bx client_Client.bd client_Client.fp z00d a0.clients.a1, bx router_Router.bd router_Router.fp z00e a0.routers.a0, bx router_Router.bd router_Router.fp z00f a0.routers.a1, bx relay_Relay.bd relay_Relay.fp z00g a0.relay, mb (fun (x : world_place) => Ag x.cs) (fun (x : Int) => N x) z00h a0.since, mb (fun (x : world_word) => Ag x.cs) (fun (x : Bool) => Bo x) z00i a0.told, mb (fun (x : ByteArray) => Value.string x) (fun (x : api_Inv) => Ag x.cs) z00j a0.keys, mb (fun (x : ByteArray) => Value.string x) (fun (x : world_data) => Ag x.cs) z00k a0.digests] [rows 26 v02 (a2.map api_Send.cs)] (fun z : Unit => True) (fun z => Tu []) (fun z M => blk b00 58 (world_World.cs a0 z00a z00b z00c z00d z00e z00f z00g z00h z00i z00j z00k) :: bx chain_Chain.bd chain_Chain.fp z00a a0.sides.a0 :: bx chain_Chain.bd chain_Chain.fp z00b a0.sides.a1 :: bx client_Client.bd client_Client.fp z00c a0.clients.a0 :: bx client_Client.bd client_Client.fp z00d a0.clients.a1 :: bx router_Router.bd router_Router.fp z00e a0.routers.a0 :: bx router_Router.bd router_Router.fp z00f a0.routers.a1 :: bx relay_Relay.bd relay_Relay.fp z00g a0.relay :: mb (fun (x : world_place) => Ag x.cs) (fun (x : Int) => N x) z00h a0.since :: mb (fun (x : world_word) => Ag x.cs) (fun (x : Bool) => Bo x) z00i a0.told :: mb (fun (x : ByteArray) => Value.string x) (fun (x : api_Inv) => Ag x.cs) z00j a0.keys :: mb (fun (x : ByteArray) => Value.string x) (fun (x : world_data) => Ag x.cs) z00k a0.digests ::  M) (fun z M =>  M) := by
  refine .of func80 rfl ntmps80 rfl fun w0 D0 G0 => ?_
  unfold world_World_send at h
  refine .seq <| .reg rfl <| .opp (P.mov .t2) rfl <| .op (V.lnr (n := a2.length) .g0 Mm.m0 map_len runUnderlying118) rfl <| .opp (P.mov .k) rfl <| .nil <| .then <| .block <| .rounds 1 <| .rd <| .seq <| .reg rfl ?_
  refine .opp (P.bin .g0 .g1 .lss) rfl <| .nil <| .then <| .seq <| .cond .t0 (fun c1 => ?_) (fun c1 => ?_)
  · rw [if_pos c1] at h
    refine .skip <| .then <| .seq <| .block <| .seq <| .reg rfl ?_
    obtain ⟨x5, hx6, h⟩ := bnd_eq h
    obtain ⟨i7, hi8, hx6⟩ := at_eq hx6
    have hi8_ : (0 : Int).toNat = i7 := by rw [hi8]; rfl
    refine .ixq Mm.m0 (map_get hx6) fun p2 q3 hq4 => .opp (P.ixi (i := i7) .g0 hi8 .g2 hq4 runUnderlying118 sizeOf181) rfl <| .op (V.ldx0 (u := Ag (api_Send.cs x5)) .t0 hq4 Mm.m0 (map_get hx6) (.agg isAgg181 sizeOf181 rfl rfl)) rfl <| .opx (X.alc (cs := (api_Send.cs ⟨0, ⟨0, 0, 0, 0, ⟨0, 0, 0, 0⟩, ⟨0, ⟨#[]⟩, 0, 0, 0, 0, ⟨#[]⟩⟩, ⟨⟨0, 0, 0, 0⟩, 0⟩, ⟨0, 0, 0, 0⟩, ⟨#[]⟩⟩⟩)) zeroValue181 rfl) rfl fun b9 => .opg (G.str .t1 .g0 .k0 (.mk (cs' := (api_Send.cs x5)) sizeOf181 rfl rfl rfl rfl)) rfl fun _ _ => .nil <| .then <| .seq <| .reg rfl <| .opp (P.mov .g4) rfl <| .opp (P.fa .g1 fa_181_0 rfl) rfl <| .op (V.ld (v := N x5.Side) .t0 .k0 (.one isAgg3 rfl)) rfl ?_
    refine .opp (P.fa .g2 fa_181_1 rfl) rfl <| .op (V.ld (v := Ag (api_Tx.cs x5.Tx)) .t0 .k0 (.agg isAgg83 sizeOf83 rfl rfl)) rfl ?_
    cases h
  · rw [if_neg (ne_true_of_eq_false c1)] at h
    refine .exit <| .thx <| .thx <| .inb ?_
    cases h
    exact .finwn () (.r0 rfl) trivial (Ls.of (.cons .k0 (.cons .k0 (.cons .k0 (.cons .k0 (.cons .k0 (.cons .k0 (.cons .k0 (.cons .k0 (.cons .k0 (.cons .k0 (.cons .k0 (.cons .k0 .nil))))))))))))) .nil
attribute [irreducible] world_World_send
noncomputable def world_World_router (a0 : world_World) (a1 : Int) : Option (Nat) :=
  thn (if (decide (a1 < 2)) = true then true else (decide (a1 ≥ 4))) fun (y1 : Bool) => if y1 = true then (some 0) else (if (decide (IntKind.i64.wrap (a1 - 2) = 0)) = true then (some 1) else (if (decide (IntKind.i64.wrap (a1 - 2) = 1)) = true then (some 2) else none))
set_option maxRecDepth 20000 in
set_option maxHeartbeats 8000000 in
theorem S_world_World_router (b00 : Nat) (a0 : world_World) (z00a z00b z00c z00d z00e z00f z00g z00h z00i z00j z00k : Value) (a1 : Int) (r : Nat) (h : world_World_router a0 a1 = some r) :
    SpecF Tryz.prog 81 [pt b00 0, N a1] [blk b00 58 (world_World.cs a0 z00a z00b z00c z00d z00e z00f z00g z00h z00i z00j z00k), bx chain_Chain.bd chain_Chain.fp z00a a0.sides.a0, bx chain_Chain.bd chain_Chain.fp z00b a0.sides.a1, bx client_Client.bd client_Client.fp z00c a0.clients.a0, bx client_Client.bd client_Client.fp z00d a0.clients.a1, bx router_Router.bd router_Router.fp z00e a0.routers.a0, bx router_Router.bd router_Router.fp z00f a0.routers.a1, bx relay_Relay.bd relay_Relay.fp z00g a0.relay, mb (fun (x : world_place) => Ag x.cs) (fun (x : Int) => N x) z00h a0.since, mb (fun (x : world_word) => Ag x.cs) (fun (x : Bool) => Bo x) z00i a0.told, mb (fun (x : ByteArray) => Value.string x) (fun (x : api_Inv) => Ag x.cs) z00j a0.keys, mb (fun (x : ByteArray) => Value.string x) (fun (x : world_data) => Ag x.cs) z00k a0.digests] [] (fun z : Unit => True) (fun z => pk r 0 [nilp, z00e, z00f]) (fun z M => blk b00 58 (world_World.cs a0 z00a z00b z00c z00d z00e z00f z00g z00h z00i z00j z00k) :: bx chain_Chain.bd chain_Chain.fp z00a a0.sides.a0 :: bx chain_Chain.bd chain_Chain.fp z00b a0.sides.a1 :: bx client_Client.bd client_Client.fp z00c a0.clients.a0 :: bx client_Client.bd client_Client.fp z00d a0.clients.a1 :: bx router_Router.bd router_Router.fp z00e a0.routers.a0 :: bx router_Router.bd router_Router.fp z00f a0.routers.a1 :: bx relay_Relay.bd relay_Relay.fp z00g a0.relay :: mb (fun (x : world_place) => Ag x.cs) (fun (x : Int) => N x) z00h a0.since :: mb (fun (x : world_word) => Ag x.cs) (fun (x : Bool) => Bo x) z00i a0.told :: mb (fun (x : ByteArray) => Value.string x) (fun (x : api_Inv) => Ag x.cs) z00j a0.keys :: mb (fun (x : ByteArray) => Value.string x) (fun (x : world_data) => Ag x.cs) z00k a0.digests ::  M) (fun z M =>  M) := by
  refine .of func81 rfl ntmps81 rfl fun w0 D0 G0 => ?_
  unfold world_World_router at h
  refine .seq <| .reg rfl <| .op0 (OpP.toV (P.asg .k)) rfl <| .nil <| .then <| .seq ?_
  obtain ⟨y1, hj3, h⟩ := thn_eq h
  refine .cutx (γ := Unit) (E1 := fun z2 => [(10, Bo y1), (0, pt b00 0), (1, N a1)]) (L1 := fun z2 => [blk b00 58 (world_World.cs a0 z00a z00b z00c z00d z00e z00f z00g z00h z00i z00j z00k), bx chain_Chain.bd chain_Chain.fp z00a a0.sides.a0, bx chain_Chain.bd chain_Chain.fp z00b a0.sides.a1, bx client_Client.bd client_Client.fp z00c a0.clients.a0, bx client_Client.bd client_Client.fp z00d a0.clients.a1, bx router_Router.bd router_Router.fp z00e a0.routers.a0, bx router_Router.bd router_Router.fp z00f a0.routers.a1, bx relay_Relay.bd relay_Relay.fp z00g a0.relay, mb (fun (x : world_place) => Ag x.cs) (fun (x : Int) => N x) z00h a0.since, mb (fun (x : world_word) => Ag x.cs) (fun (x : Bool) => Bo x) z00i a0.told, mb (fun (x : ByteArray) => Value.string x) (fun (x : api_Inv) => Ag x.cs) z00j a0.keys, mb (fun (x : ByteArray) => Value.string x) (fun (x : world_data) => Ag x.cs) z00k a0.digests]) (R1 := fun z2 => []) ?_ (fun z2 => ?_)
  · clear h
    refine .reg rfl <| .opp (P.mov .g1) rfl <| .opp (P.bin .t0 .k .lss) rfl <| .opp (P.mov .t0) rfl <| .split .k0 (fun c4 => ?_) (fun c4 => ?_)
    · rw [if_pos c4] at hj3
      refine .gno rfl .g0 rfl rfl <| .gno rfl .g0 rfl rfl <| .opp (P.pickT .t0 .k) rfl <| .nil ?_
      subst hj3
      exact .stj () (.cons Mm.m0 (.cons Mm.m1 (.cons Mm.m2 .nil))) (.of (.cons .k0 (.cons .k0 (.cons .k0 (.cons .k0 (.cons .k0 (.cons .k0 (.cons .k0 (.cons .k0 (.cons .k0 (.cons .k0 (.cons .k0 (.cons .k0 .nil))))))))))))) .nil
    · rw [if_neg (ne_true_of_eq_false c4)] at hj3
      refine .gyes rfl .g0 <| .opp (P.mov .g2) rfl <| .gyes rfl .g1 <| .opp (P.bin .t0 .k .geq) rfl <| .opp (P.pickF .t1 .t0) rfl <| .nil ?_
      subst hj3
      exact .stj () (.cons Mm.m0 (.cons Mm.m1 (.cons Mm.m2 .nil))) (.of (.cons .k0 (.cons .k0 (.cons .k0 (.cons .k0 (.cons .k0 (.cons .k0 (.cons .k0 (.cons .k0 (.cons .k0 (.cons .k0 (.cons .k0 (.cons .k0 .nil))))))))))))) .nil
  · clear hj3
    refine .cond .t0 (fun c5 => ?_) (fun c5 => ?_)
    · rw [if_pos c5] at h
      refine .seq <| .reg rfl <| .opp (P.asg .k) rfl <| .nil <| .then <| .ret <| .thr ?_
      cases h
      exact .finw () (.r1 rfl (.tmp .g0)) trivial (Ls.of (.cons .k0 (.cons .k0 (.cons .k0 (.cons .k0 (.cons .k0 (.cons .k0 (.cons .k0 (.cons .k0 (.cons .k0 (.cons .k0 (.cons .k0 (.cons .k0 .nil))))))))))))) .nil
    · rw [if_neg (ne_true_of_eq_false c5)] at h
      refine .skip <| .then <| .seq <| .reg rfl <| .opp (P.mov .t0) rfl <| .opp (P.mov .t1) rfl <| .opp (P.bin .t0 .k .sub) rfl <| .opp (P.nilc .t1) rfl <| .opp (P.fa .t0 fa_58_3 rfl) rfl <| .ixS 0 .k1 (fun c6 => ?_) (fun c6 => ?_)
      · rw [if_pos c6] at h
        refine .opp (P.iac (i := 0) .t0 rfl .t0 runUnderlying52 sizeOf51 rfl rfl) rfl <| .op (V.ld (v := z00e) .t0 .k0 (.one isAgg51 rfl)) rfl <| .opp (P.asg .t0) rfl <| .nil <| .then <| .ret ?_
        cases h
        exact .finw () (.r1 rfl (.tmp .g0)) trivial (Ls.of (.cons .k0 (.cons .k0 (.cons .k0 (.cons .k0 (.cons .k0 (.cons .k0 (.cons .k0 (.cons .k0 (.cons .k0 (.cons .k0 (.cons .k0 (.cons .k0 .nil))))))))))))) .nil
      · rw [if_neg (ne_true_of_eq_false c6)] at h
        refine .ixS 1 .k0 (fun c7 => ?_) (fun c7 => ?_)
        · rw [if_pos c7] at h
          refine .opp (P.iac (i := 1) .t0 rfl .t0 runUnderlying52 sizeOf51 rfl rfl) rfl <| .op (V.ld (v := z00f) .t0 .k0 (.one isAgg51 rfl)) rfl <| .opp (P.asg .t0) rfl <| .nil <| .then <| .ret ?_
          cases h
          exact .finw () (.r1 rfl (.tmp .g0)) trivial (Ls.of (.cons .k0 (.cons .k0 (.cons .k0 (.cons .k0 (.cons .k0 (.cons .k0 (.cons .k0 (.cons .k0 (.cons .k0 (.cons .k0 (.cons .k0 (.cons .k0 .nil))))))))))))) .nil
        · rw [if_neg (ne_true_of_eq_false c7)] at h
          cases h
attribute [irreducible] world_World_router
noncomputable def router_Router_Down_bx (a0 : Option router_Router) : Option (Bool) :=
  Option.bind (if a0.isNone = true then (some true) else (Option.bind a0 fun (y7 : router_Router) => if (!y7.made) = true then (some true) else (some y7.down))) fun (y1 : Bool) => some y1
set_option maxRecDepth 20000 in
set_option maxHeartbeats 8000000 in
theorem S_router_Router_Down_bx (v00 : Value) (a0 : Option router_Router) (r : Bool) (h : router_Router_Down_bx a0 = some r) :
    SpecF Tryz.prog 82 [v00] [bx router_Router.bd router_Router.fp v00 a0] [] (fun z : Unit => True) (fun z => Bo r) (fun z M => bx router_Router.bd router_Router.fp v00 a0 ::  M) (fun z M =>  M) := by
  refine .of func82 rfl ntmps82 rfl fun w0 D0 G0 => ?_
  unfold router_Router_Down_bx at h
  refine .seq <| .reg rfl <| .op0 (OpP.toV (P.asg .k)) rfl <| .nil <| .then ?_
  obtain ⟨y1, hj3, h⟩ := bnd_eq h
  refine .cutx (γ := Unit) (E1 := fun z2 => [(2, Bo y1)]) (L1 := fun z2 => [bx router_Router.bd router_Router.fp v00 a0]) (R1 := fun z2 => []) ?_ (fun z2 => ?_)
  · clear h
    refine .reg rfl <| .opp (P.mov .g0) rfl <| .fact .k0 (fun _ hh => bx_nil (P := Tryz.prog) (t := 51) (e := 110) (by kernel_rfl) hh) fun hq4 => .opp (P.bin .t0 .k hq4.1) rfl <| .opp (P.mov .t0) rfl <| .split .k0 (fun c5 => ?_) (fun c5 => ?_)
    · rw [if_pos c5] at hj3
      refine .gno rfl .g0 rfl rfl <| .gno rfl .g0 rfl rfl <| .gno rfl .g0 rfl rfl <| .gno rfl .g0 rfl rfl <| .gno rfl .g0 rfl rfl <| .opp (P.pickT .t0 .k) rfl <| .opp (P.mov .t0) rfl <| .gno rfl .g0 rfl rfl <| .gno rfl .g0 rfl rfl <| .gno rfl .g0 rfl rfl <| .gno rfl .g0 rfl rfl <| .opp (P.pickT .t0 .k) rfl ?_
      refine .opp (P.asg .t0) rfl <| .nil ?_
      cases hj3
      exact .stj () (.cons Mm.m0 .nil) (.of (.cons .k0 .nil)) .nil
    · rw [if_neg (ne_true_of_eq_false c5)] at hj3
      refine .gyes rfl .g0 <| .opp (P.mov .g1) rfl <| .gyes rfl .g1 ?_
      obtain ⟨y7, hy8, hj3⟩ := bnd_eq hj3
      refine .bxo .k0 hy8 (fun _ _ _ => rfl) fun ⟨b9, u10, u11, u12⟩ hz6 => ?_
      replace hz6 : v00 = pt b9 0 := hz6
      subst hz6
      refine .opp (P.nilc .t0) rfl <| .gyes rfl .g1 <| .opp (P.fa .t0 fa_110_7 rfl) rfl <| .gyes rfl .g1 <| .op (V.ld (v := Bo y7.made) .t0 .k0 (.one isAgg4 rfl)) rfl <| .gyes rfl .g1 <| .opp (P.not .t0) rfl <| .opp (P.pickF .t1 .t0) rfl <| .opp (P.mov .t0) rfl <| .split .k0 (fun c13 => ?_) (fun c13 => ?_)
      · rw [if_pos c13] at hj3
        refine .gno rfl .g0 rfl rfl <| .gno rfl .g0 rfl rfl <| .gno rfl .g0 rfl rfl <| .gno rfl .g0 rfl rfl <| .opp (P.pickT .t0 .k) rfl <| .opp (P.asg .t0) rfl <| .nil ?_
        cases hj3
        exact .bxc router_Router.bd router_Router.fp (b9, u10, u11, u12) y7 (z := (pt b9 0)) rfl (.cons .k0 (.cons .k0 (.cons .k0 (.cons .k0 .nil)))) <| .conseq .k0 (q := bx router_Router.bd router_Router.fp (pt b9 0) a0) (fun _ h_ => by rw [hy8]; exact h_) <| .stj () (.cons Mm.m0 .nil) (.of (.cons .k0 .nil)) .nil
      · rw [if_neg (ne_true_of_eq_false c13)] at hj3
        refine .gyes rfl .g0 <| .opp (P.mov .t1) rfl <| .gyes rfl .g1 <| .opp (P.nilc .t0) rfl <| .gyes rfl .g1 <| .opp (P.fa .t0 fa_110_6 rfl) rfl <| .gyes rfl .g1 <| .op (V.ld (v := Bo y7.down) .t0 .k0 (.one isAgg4 rfl)) rfl <| .opp (P.pickF .t1 .t0) rfl <| .opp (P.asg .t0) rfl <| .nil ?_
        cases hj3
        exact .bxc router_Router.bd router_Router.fp (b9, u10, u11, u12) y7 (z := (pt b9 0)) rfl (.cons .k0 (.cons .k0 (.cons .k0 (.cons .k0 .nil)))) <| .conseq .k0 (q := bx router_Router.bd router_Router.fp (pt b9 0) a0) (fun _ h_ => by rw [hy8]; exact h_) <| .stj () (.cons Mm.m0 .nil) (.of (.cons .k0 .nil)) .nil
  · clear hj3
    refine .ret ?_
    cases h
    exact .finw () (.r1 rfl (.tmp .g0)) trivial (Ls.of (.cons .k0 .nil)) .nil
attribute [irreducible] router_Router_Down_bx
noncomputable def slices_Clone_api_Event (a0 : List api_Event) : Option ((List api_Event)) :=
  grd ((([] : List api_Event).length + a0.length) * 240 ≤ 140737488355328) <| some ((([] : List api_Event) ++ a0))
set_option maxRecDepth 20000 in
set_option maxHeartbeats 8000000 in
theorem S_slices_Clone_api_Event (v00 : Value) (a0 : List api_Event) (r : (List api_Event)) (h : slices_Clone_api_Event a0 = some r) :
    SpecF Tryz.prog 109 [v00] [] [rows 27 v00 (a0.map api_Event.cs)] (fun z : Value => True) (fun z => z) (fun z M => lst 162 27 z (r.map api_Event.cs) ::  M) (fun z M =>  M) := by
  refine .of func109 rfl ntmps109 rfl fun w0 D0 G0 => ?_
  unfold slices_Clone_api_Event at h
  refine .seq <| .reg rfl <| .op0 (OpP.toV (P.asg .k)) rfl <| .nil <| .then <| .seq <| .seq <| .reg rfl <| .opp (P.mov .g0) rfl <| .opg (G.nilr (e := 162) .t0 Mm.m0 (by kernel_rfl) rfl) rfl fun n1 hz2 => .nil <| .then ?_
  refine .cond .t0 (fun c3 => ?_) (fun c3 => ?_)
  · have hx7 : a0 = [] := by simpa using hz2 c3
    replace h : some ([] : List api_Event) = some r := by rw [hx7] at h; simpa [grd] using h
    refine .seq <| .reg rfl <| .opp (P.asg .k) rfl <| .nil <| .then <| .ret <| .thr ?_
    cases h
    exact .lnil 162 27 <| .finw nilSl (.r1 rfl (.tmp .g0)) trivial (Ls.of (.cons .k0 .nil)) .nil
  · refine .skip <| .then <| .seq <| .reg rfl <| .opg (G.bsl0 runUnderlying91 sizeOf162 rfl) rfl fun u4 _ => .opp (P.mov .t1) rfl ?_
    obtain ⟨hb6, h⟩ := grd_eq h
    refine .opg (G.app (by_ := 240) .t1 .t0 .k0 (.inl Mm.m0) runUnderlying91 runUnderlying91 sizeOf162 typeInfo162 rfl rfl zeroValue162 rfl (one_map one_162 _) (by simpa using hb6) rfl) rfl fun u5 _ => .conseq .k0 (q := lst 162 27 u5 ((([] : List api_Event) ++ a0).map api_Event.cs)) (fun _ hh => by simpa [List.map_append] using hh) <| .opp (P.asg .t0) rfl <| .nil <| .then <| .ret ?_
    cases h
    exact .finw u5 (.r1 rfl (.tmp .g0)) trivial (Ls.of (.cons .k0 .nil)) .nil
attribute [irreducible] slices_Clone_api_Event
noncomputable def chain_Chain_Events_bx (a0 : Option chain_Chain) (a1 : Int) : Option ((List api_Event)) :=
  Option.bind (chain_Chain_is_bx a0) fun r1 => if (!r1) = true then (some ([] : List api_Event)) else (Option.bind a0 fun (y5 : chain_Chain) => grd (okS y5.events.length (some (if (y5.events.length : Int) < (if 0 > a1 then 0 else a1) then (y5.events.length : Int) else if 0 > a1 then 0 else a1)) none none) <| Option.bind (slices_Clone_api_Event (slc y5.events (if (y5.events.length : Int) < (if 0 > a1 then 0 else a1) then (y5.events.length : Int) else if 0 > a1 then 0 else a1).toNat y5.events.length)) fun r13 => some r13)
set_option maxRecDepth 20000 in
set_option maxHeartbeats 8000000 in
theorem S_chain_Chain_Events_bx (v00 : Value) (a0 : Option chain_Chain) (a1 : Int) (r : (List api_Event)) (h : chain_Chain_Events_bx a0 a1 = some r) :
    SpecF Tryz.prog 60 [v00, N a1] [bx chain_Chain.bd chain_Chain.fp v00 a0] [] (fun z : Value => True) (fun z => z) (fun z M => bx chain_Chain.bd chain_Chain.fp v00 a0 :: lst 162 27 z (r.map api_Event.cs) ::  M) (fun z M =>  M) := by
  refine .of func60 rfl ntmps60 rfl fun w0 D0 G0 => ?_
  unfold chain_Chain_Events_bx at h
  refine .seq <| .reg rfl <| .op0 (OpP.toV (P.asg .k)) rfl <| .nil <| .then <| .seq <| .seq <| .reg rfl <| .opp (P.mov .g0) rfl ?_
  obtain ⟨r1, hr2, h⟩ := bnd_eq h
  refine .opg (G.call call25 (.cons .t0 .nil) (S_chain_Chain_is_bx v00 a0 r1 hr2) (.cons .k0 .nil) .nil (fun _ _ => rfl) (fun _ _ => rfl) rfl) rfl fun _ _ => .opp (P.not .t0) rfl <| .nil <| .then <| .cond .t0 (fun c3 => ?_) (fun c3 => ?_)
  · rw [if_pos c3] at h
    refine .seq <| .reg rfl <| .opp (P.asg .k) rfl <| .nil <| .then <| .ret <| .thr ?_
    cases h
    exact .lnil 162 27 <| .finw nilSl (.r1 rfl (.tmp .g0)) trivial (Ls.of (.cons .k1 (.cons .k0 .nil))) .nil
  · rw [if_neg (ne_true_of_eq_false c3)] at h
    refine .skip <| .then <| .seq ?_
    obtain ⟨y5, hy6, h⟩ := bnd_eq h
    refine .bxo .k0 hy6 (fun _ _ _ => rfl) fun ⟨b7, u8, u9, u10⟩ hz4 => ?_
    replace hz4 : v00 = pt b7 0 := hz4
    subst hz4
    refine .draw 15 (.on 0 .pu (.on 1 .pu (.on 2 .pu (.on 4 .pu (.on 5 .pu (.on 6 .pu (.on 7 .pu (.on 8 .pu (.on 3 .ld (.on 9 .ld (.on 10 .ld (.on 11 .pu (.on 12 .pu (.on 13 .go (.on 14 .go .nl))))))))))))))) follows_mixed (.thn .body) (by kernel_rfl) <| .dpu rfl (.n rfl) (P.mov .g0) rfl rfl <| .dpu rfl (.n rfl) (P.nilc .t0) rfl rfl <| .dpu rfl (.n rfl) (P.fa .t0 fa_93_2 rfl) rfl rfl <| .dpu rfl (.n rfl) (P.mov .t2) rfl rfl <| .dpu rfl (.n rfl) (P.max2 .t0 .k) rfl rfl <| .dpu rfl (.n rfl) (P.mov .t2) rfl rfl <| .dpu rfl (.n rfl) (P.nilc .t0) rfl rfl <| .dpu rfl (.n rfl) (P.fa .t0 fa_93_2 rfl) rfl rfl <| .dld rfl (.n rfl) (V.ld (v := u10) .t2 .k0 (.one isAgg91 rfl)) (fun _ h => h) rfl rfl <| .dld rfl (.n rfl) (V.ld (v := u10) .t1 .k0 (.one isAgg91 rfl)) (fun _ h => h) rfl rfl <| .dld rfl (.n rfl) (V.lnl (n := y5.events.length) .t0 .k3 map_len runUnderlying91) (fun _ h => h) rfl rfl ?_
    refine .dpu rfl (.n rfl) (P.min2 .t2 .t0) rfl rfl ?_
    obtain ⟨hb11, h⟩ := grd_eq h
    refine .slnql .k3 fun hq12 => ?_
    simp only [List.length_map] at hq12
    refine .dpu rfl (.n rfl) (P.slp (li := (some (if (y5.events.length : Int) < (if 0 > a1 then 0 else a1) then (y5.events.length : Int) else if 0 > a1 then 0 else a1))) (hj := none) (mk := none) .t1 (.some .t0) .none .none hq12 runUnderlying91 sizeOf162 (by simpa using hb11)) rfl rfl ?_
    obtain ⟨r13, hr14, h⟩ := bnd_eq h
    refine .dgo rfl (.n rfl) (G.calll call109 (.cons .t0 .nil) (S_slices_Clone_api_Event (slv u10 27 (some (if (y5.events.length : Int) < (if 0 > a1 then 0 else a1) then (y5.events.length : Int) else if 0 > a1 then 0 else a1)) none none) (slc y5.events (if (y5.events.length : Int) < (if 0 > a1 then 0 else a1) then (y5.events.length : Int) else if 0 > a1 then 0 else a1).toNat y5.events.length) r13 hr14) .nil (.imp (List.mem_append_right _ Mm.m3) (fun _ h_ => by have h2_ := rows_slv (by rw [List.length_map]; exact hb11) (lst_rows h_); rw [slc_map, List.length_map] at h2_; exact h2_) .nil) (fun _ _ => rfl) rfl) (.inr fun _ _ _ h => (h.imp (Ls.of (.cons .k1 (.cons .k1 (.cons .k1 (.cons .k1 .nil)))))).ro Rs.nil) fun u15 _ => .dgo rfl (.n rfl) (OpV.g (OpP.toV (P.asg .t0)) rfl) (.inr fun _ _ _ h => (h.imp (Ls.of (.cons .k1 (.cons .k1 (.cons .k1 (.cons .k1 .nil)))))).ro Rs.nil) fun _ _ => .dnil <| .then <| .ret ?_
    cases h
    exact .bxc chain_Chain.bd chain_Chain.fp (b7, u8, u9, u10) y5 (z := (pt b7 0)) rfl (.cons .k1 (.cons .k1 (.cons .k1 (.cons .k1 .nil)))) <| .conseq .k0 (q := bx chain_Chain.bd chain_Chain.fp (pt b7 0) a0) (fun _ h_ => by rw [hy6]; exact h_) <| .finw u15 (.r1 rfl (.tmp .g0)) trivial (Ls.of (.cons .k0 (.cons .k0 .nil))) .nil
attribute [irreducible] chain_Chain_Events_bx
noncomputable def scan_Deals (a0 : List api_Event) : Option ((List api_Tx)) :=
  Option.bind (loopR (fun (i1 : Nat) (e4 : api_Event) (s2 : (List api_Tx)) => Option.bind (thn (if (decide (e4.Code = 0)) = true then (decide (e4.Tx.Kind = 4)) else false) fun (y22 : Bool) => if y22 = true then (grd ((s2.length + ([e4.Tx] : List api_Tx).length) * 224 ≤ 140737488355328) <| some ((s2 ++ ([e4.Tx] : List api_Tx)))) else (some s2)) fun (y15 : (List api_Tx)) => some (.nx y15)) 0 a0 ([])) fun o5 => Lo.on o5 fun (s2 : (List api_Tx)) => some s2
set_option maxRecDepth 20000 in
set_option maxHeartbeats 8000000 in
theorem S_scan_Deals (v00 : Value) (a0 : List api_Event) (r : (List api_Tx)) (h : scan_Deals a0 = some r) :
    SpecF Tryz.prog 178 [v00] [] [rows 27 v00 (a0.map api_Event.cs)] (fun z : Value => True) (fun z => z) (fun z M => lst 83 25 z (r.map api_Tx.cs) ::  M) (fun z M =>  M) := by
  refine .of func178 rfl ntmps178 rfl fun w0 D0 G0 => ?_
  unfold scan_Deals at h
  refine .seq <| .reg rfl <| .op0 (OpP.toV (P.asg .k)) rfl <| .nil <| .then <| .seq <| .reg rfl <| .opp (P.asg .k) rfl <| .nil <| .then <| .seq <| .seq ?_
  refine .reg rfl <| .opp (P.mov .t1) rfl <| .op (V.lnr (n := a0.length) .g0 Mm.m0 map_len runUnderlying91) rfl <| .opp (P.mov .k) rfl <| .nil <| .then <| .block <| .lnil 83 25 ?_
  obtain ⟨o5, ho6, h⟩ := bnd_eq h
  refine .lenq Mm.m0 fun hl12 => ?_
  rw [map_len] at hl12
  refine .loopR (γ := Value) (fun i1 (s2 : (List api_Tx)) z3 => [(8, N (i1 : Int)), (7, N (a0.length : Int)), (6, v00), (3, z3)]) (fun (s2 : (List api_Tx)) z3 => [lst 83 25 z3 (s2.map api_Tx.cs)]) (fun (s2 : (List api_Tx)) z3 => [rows 27 v00 (a0.map api_Event.cs)]) nilSl ho6 (.cons Mm.m0 (.cons Mm.m1 (.cons Mm.m2 (.cons Mm.m3 .nil)))) (.of (.cons .k0 .nil)) (.cons Mm.m0 .nil) (fun i1 s2 z3 hi13 hr9 => ?_)
  refine .seq <| .reg rfl <| .opp (P.bin (v := Bo (decide ((i1 : Int) < (a0.length : Nat)))) .g0 .g1 .lss) rfl <| .nil <| .then <| .seq <| .cond .t0 (fun c14 => ?_) (fun c14 => ?_)
  · obtain ⟨e4, hx11⟩ := get_of c14
    obtain ⟨ct10, hc7, hn8⟩ := loopR_at hx11 hr9
    refine .skip <| .then ?_
    obtain ⟨y15, hj17, hc7⟩ := bnd_eq hc7
    refine .cutx (γ := Value) (E1 := fun z16 => [(3, z16), (8, N (i1 : Int)), (7, N (a0.length : Int)), (6, v00)]) (L1 := fun z16 => [lst 83 25 z16 (y15.map api_Tx.cs)]) (R1 := fun z16 => [rows 27 v00 (a0.map api_Event.cs)]) ?_ (fun z16 => ?_)
    · clear hc7
      refine .block <| .seq <| .reg rfl <| .ixq Mm.m0 (map_get hx11) fun p18 q19 hq20 => .opp (P.ixi (i := i1) .g0 rfl .g2 hq20 runUnderlying91 sizeOf162) rfl <| .op (V.ldx0 (u := Ag (api_Event.cs e4)) .t0 hq20 Mm.m0 (map_get hx11) (.agg isAgg162 sizeOf162 rfl rfl)) rfl <| .opx (X.alc (cs := (api_Event.cs ⟨0, 0, ⟨0, 0, 0, 0, ⟨0, 0, 0, 0⟩, ⟨0, ⟨#[]⟩, 0, 0, 0, 0, ⟨#[]⟩⟩, ⟨⟨0, 0, 0, 0⟩, 0⟩, ⟨0, 0, 0, 0⟩, ⟨#[]⟩⟩⟩)) zeroValue162 rfl) rfl fun b21 => .opg (G.str .t1 .g0 .k0 (.mk (cs' := (api_Event.cs e4)) sizeOf162 rfl rfl rfl rfl)) rfl fun _ _ => .nil <| .then ?_
      obtain ⟨y22, hj24, hj17⟩ := thn_eq hj17
      refine .cutx (γ := Unit) (E1 := fun z23 => [(20, Bo y22), (5, pt b21 0), (8, N (i1 : Int)), (7, N (a0.length : Int)), (6, v00), (3, z3)]) (L1 := fun z23 => [blk b21 162 (api_Event.cs e4), lst 83 25 z3 (s2.map api_Tx.cs)]) (R1 := fun z23 => [rows 27 v00 (a0.map api_Event.cs)]) ?_ (fun z23 => ?_)
      · clear hj17
        refine .reg rfl <| .opp (P.fa .g0 fa_162_1 rfl) rfl <| .op (V.ld (v := N e4.Code) .t0 .k0 (.one isAgg26 rfl)) rfl <| .opp (P.bin .t0 .k .eql) rfl <| .opp (P.mov .t0) rfl <| .split .k0 (fun c25 => ?_) (fun c25 => ?_)
        · rw [if_pos c25] at hj24
          refine .gyes rfl .g0 <| .opp (P.fa .g1 fa_162_2 rfl) rfl <| .gyes rfl .g1 <| .opp (P.fa .t0 fa_83_2 rfl) rfl <| .gyes rfl .g1 <| .op (V.ld (v := N e4.Tx.Kind) .t0 .k0 (.one isAgg3 rfl)) rfl <| .gyes rfl .g1 <| .opp (P.bin .t0 .k .eql) rfl <| .opp (P.pickT .t1 .t0) rfl <| .nil ?_
          subst hj24
          exact .stj () (.cons Mm.m0 (.cons Mm.m1 (.cons Mm.m2 (.cons Mm.m3 (.cons Mm.m4 (.cons Mm.m5 .nil)))))) (.of (.cons .k0 (.cons .k0 .nil))) (.cons Mm.m0 .nil)
        · rw [if_neg (ne_true_of_eq_false c25)] at hj24
          refine .gno rfl .g0 rfl rfl <| .gno rfl .g0 rfl rfl <| .gno rfl .g0 rfl rfl <| .gno rfl .g0 rfl rfl <| .opp (P.pickF .t0 .k) rfl <| .nil ?_
          subst hj24
          exact .stj () (.cons Mm.m0 (.cons Mm.m1 (.cons Mm.m2 (.cons Mm.m3 (.cons Mm.m4 (.cons Mm.m5 .nil)))))) (.of (.cons .k0 (.cons .k0 .nil))) (.cons Mm.m0 .nil)
      · clear hj24
        refine .cond .t0 (fun c26 => ?_) (fun c26 => ?_)
        · rw [if_pos c26] at hj17
          refine .reg rfl <| .opp (P.mov .g4) rfl <| .opp (P.fa .t1 fa_162_2 rfl) rfl <| .op (V.ld (v := Ag (api_Tx.cs e4.Tx)) .t0 .k0 (.agg isAgg83 sizeOf83 rfl rfl)) rfl <| .opg (G.bsl (cs := (api_Tx.cs e4.Tx)) .t0 runUnderlying31 sizeOf83 zeroValue83 rfl rfl rfl rfl rfl) rfl fun u27 _ => ?_
          obtain ⟨hb29, hj17⟩ := grd_eq hj17
          refine .opg (G.app (by_ := 224) .t1 .t0 .k2 (.inr (.inr ⟨_, Mm.m0⟩)) runUnderlying31 runUnderlying31 sizeOf83 typeInfo83 rfl rfl zeroValue83 rfl rfl (by simpa using hb29) rfl) rfl fun u28 _ => .conseq .k0 (q := lst 83 25 u28 ((s2 ++ ([e4.Tx] : List api_Tx)).map api_Tx.cs)) (fun _ hh => by simpa [List.map_append] using hh) <| .drop .k4 <| .opp (P.asg .t0) rfl <| .nil <| .inn ?_
          cases hj17
          exact .stj u28 (.cons Mm.m0 (.cons Mm.m1 (.cons Mm.m2 (.cons Mm.m3 .nil)))) (.of (.cons .k0 .nil)) (.cons Mm.m0 .nil)
        · rw [if_neg (ne_true_of_eq_false c26)] at hj17
          refine .skip <| .inn ?_
          cases hj17
          exact .stj z3 (.cons Mm.m4 (.cons Mm.m1 (.cons Mm.m2 (.cons Mm.m3 .nil)))) (.of (.cons .k1 .nil)) (.cons Mm.m0 .nil)
    · clear hj17
      refine .reg rfl <| .opp (P.bin .g1 .k (.addc (inc_ok (lt_of_get hx11) hl12))) rfl <| .drop .k2 <| .opp (P.mov .t0) rfl <| .nil ?_
      cases hc7
      exact .rdR y15 z16 hn8 (lt_of_get hx11) (.cons Mm.m0 (.cons Mm.m2 (.cons Mm.m3 (.cons Mm.m1 .nil)))) (.of (.cons .k0 .nil)) (.cons Mm.m0 .nil)
  · obtain rfl := loopR_end (le_of_not c14) hr9
    have h := dn_on h
    refine .exit <| .thx <| .thx <| .inb <| .then <| .seq <| .reg rfl <| .opp (P.mov .t3) rfl <| .opp (P.asg .t0) rfl <| .nil <| .then <| .ret ?_
    cases h
    exact .finw z3 (.r1 rfl (.tmp .g0)) trivial (Ls.of (.cons .k0 .nil)) .nil
attribute [irreducible] scan_Deals
noncomputable def router_Router_look_bx_bx_bx (a0 : Option router_Router) (a1 : Option chain_Chain) (a2 : Option chain_Chain) : Option (router_sides × Int × (Option router_Router)) :=
  Option.bind a0 fun (y5 : router_Router) => if (decide (0 < (y5.asks.length : Int))) = true then (Option.bind (at_ y5.asks 0) fun (x15 : api_Ask) => none) else (Option.bind (chain_Chain_Events_bx a1 0) fun r20 => Option.bind (scan_Deals r20) fun r23 => if (decide (0 < (r23.length : Int))) = true then (Option.bind (at_ r23 0) fun (x30 : api_Tx) => none) else (Option.bind (journal_Append_bx_n0 y5.disk) fun r35 => some (((⟨a1, a2, (), [], []⟩ : router_sides), r35.1, (some (⟨y5.router, y5.d, r35.2, y5.asks, y5.bids, y5.mirrors, y5.down, y5.made⟩ : router_Router))))))
set_option maxRecDepth 20000 in
set_option maxHeartbeats 8000000 in
theorem S_router_Router_look_bx_bx_bx (v00 : Value) (a0 : Option router_Router) (v01 : Value) (a1 : Option chain_Chain) (v02 : Value) (a2 : Option chain_Chain) (r : router_sides × Int × (Option router_Router)) (h : router_Router_look_bx_bx_bx a0 a1 a2 = some r) :
    SpecF Tryz.prog 139 [v00, v01, v02] [bx router_Router.bd router_Router.fp v00 a0, bx chain_Chain.bd chain_Chain.fp v01 a1, bx chain_Chain.bd chain_Chain.fp v02 a2] [] (fun z : Nat × Value × Value × Value × Value => True) (fun z => Tu [pt z.1 0, N r.2.1]) (fun z M => bx router_Router.bd router_Router.fp v00 r.2.2 :: bx chain_Chain.bd chain_Chain.fp v01 a1 :: bx chain_Chain.bd chain_Chain.fp v02 a2 :: blk z.1 255 (router_sides.cs r.1 z.2.1 z.2.2.1 z.2.2.2.1 z.2.2.2.2) :: lst 176 43 z.2.2.2.1 (r.1.mail.map api_Message.cs) :: lst 181 26 z.2.2.2.2 (r.1.sends.map api_Send.cs) ::  M) (fun z M =>  M) := by
  refine .of func139 rfl ntmps139 rfl fun w0 D0 G0 => ?_
  unfold router_Router_look_bx_bx_bx at h
  refine .seq <| .reg rfl <| .op0 (OpP.toV (P.asg .k)) rfl <| .op0 (OpP.toV (P.asg .k)) rfl <| .nil <| .then <| .seq <| .reg rfl <| .opp (P.mov .g1) rfl <| .opp (P.mov .t3) rfl <| .bxp .k1 fun hv1 => .bxp .k2 fun hv2 => ?_
  refine .opp (P.bld (v := Ag (router_sides.cs ⟨none, none, (), [], []⟩ v01 v02 nilSl nilSl)) (.cons .t1 (.cons .t0 .nil)) (bld_run zeroValue255 runUnderlying255 pl_255 (by obtain ⟨_, rfl⟩ := hv1; obtain ⟨_, rfl⟩ := hv2; kernel_rfl))) rfl <| .opx (X.box (cs := (router_sides.cs ⟨none, none, (), [], []⟩ v01 v02 nilSl nilSl)) .t0 rfl) rfl fun b3 => .opp (P.asg .t0) rfl <| .nil <| .then <| .seq <| .seq <| .reg rfl <| .opp (P.mov .g1) rfl ?_
  obtain ⟨y5, hy6, h⟩ := bnd_eq h
  refine .bxo .k1 hy6 (fun _ _ _ => rfl) fun ⟨b7, u8, u9, u10⟩ hz4 => ?_
  replace hz4 : v00 = pt b7 0 := hz4
  subst hz4
  refine .opp (P.nilc .t0) rfl <| .opp (P.fa .t0 fa_110_3 rfl) rfl <| .op (V.ld (v := u9) .t0 .k0 (.one isAgg106 rfl)) rfl <| .op (V.lnl (n := y5.asks.length) .g0 .k2 map_len runUnderlying106) rfl <| .opp (P.mov .k) rfl <| .nil <| .then <| .block <| .rounds 1 <| .rd <| .seq <| .reg rfl ?_
  refine .opp (P.bin .g0 .g1 .lss) rfl <| .nil <| .then <| .seq <| .cond .t0 (fun c11 => ?_) (fun c11 => ?_)
  · rw [if_pos c11] at h
    refine .skip <| .then <| .seq <| .block <| .seq <| .reg rfl ?_
    obtain ⟨x15, hx16, h⟩ := bnd_eq h
    obtain ⟨i17, hi18, hx16⟩ := at_eq hx16
    have hi18_ : (0 : Int).toNat = i17 := by rw [hi18]; rfl
    refine .ixql .k2 (map_get hx16) fun p12 q13 hq14 => .opp (P.ixi (i := i17) .g0 hi18 .g2 hq14 runUnderlying106 sizeOf172) rfl <| .op (V.ldxl0 (u := Ag (api_Ask.cs x15)) .t0 hq14 .k2 (map_get hx16) (.agg isAgg172 sizeOf172 rfl rfl)) rfl <| .opx (X.alc (cs := (api_Ask.cs ⟨0, 0, 0, 0, ⟨0, 0, 0, 0⟩, ⟨#[]⟩⟩)) zeroValue172 rfl) rfl fun b19 => .opg (G.str .t1 .g0 .k0 (.mk (cs' := (api_Ask.cs x15)) sizeOf172 rfl rfl rfl rfl)) rfl fun _ _ => .nil <| .then <| .seq <| .reg rfl <| .opp (P.mov .g5) rfl <| .op (V.ld (v := Ag (api_Ask.cs x15)) .g1 .k0 (.agg isAgg172 sizeOf172 rfl rfl)) rfl ?_
    cases h
  · rw [if_neg (ne_true_of_eq_false c11)] at h
    refine .exit <| .thx <| .thx <| .inb <| .then <| .seq <| .seq <| .reg rfl <| .opp (P.mov .t5) rfl ?_
    obtain ⟨r20, hr21, h⟩ := bnd_eq h
    refine .opg (G.call call60 (.cons .t0 (.cons .k .nil)) (S_chain_Chain_Events_bx v01 a1 0 r20 hr21) (.cons .k5 .nil) .nil (fun _ _ => rfl) (fun _ _ => rfl) rfl) rfl fun u22 _ => .frz .k1 ?_
    obtain ⟨r23, hr24, h⟩ := bnd_eq h
    refine .opg (G.call call178 (.cons .t0 .nil) (S_scan_Deals u22 r20 r23 hr24) .nil (.cons Mm.m0 .nil) (fun _ _ => rfl) (fun _ _ => rfl) rfl) rfl fun u25 _ => .op (V.lnl (n := r23.length) .g0 .k0 map_len runUnderlying31) rfl <| .opp (P.mov .k) rfl <| .nil <| .then <| .block <| .rounds 1 <| .rd <| .seq <| .reg rfl <| .opp (P.bin .g0 .g1 .lss) rfl <| .nil ?_
    refine .then <| .seq <| .cond .t0 (fun c26 => ?_) (fun c26 => ?_)
    · rw [if_pos c26] at h
      refine .skip <| .then <| .seq <| .block <| .seq <| .reg rfl ?_
      obtain ⟨x30, hx31, h⟩ := bnd_eq h
      obtain ⟨i32, hi33, hx31⟩ := at_eq hx31
      have hi33_ : (0 : Int).toNat = i32 := by rw [hi33]; rfl
      refine .ixql .k0 (map_get hx31) fun p27 q28 hq29 => .opp (P.ixi (i := i32) .g0 hi33 .g2 hq29 runUnderlying31 sizeOf83) rfl <| .op (V.ldxl0 (u := Ag (api_Tx.cs x30)) .t0 hq29 .k0 (map_get hx31) (.agg isAgg83 sizeOf83 rfl rfl)) rfl <| .opx (X.alc (cs := (api_Tx.cs ⟨0, 0, 0, 0, ⟨0, 0, 0, 0⟩, ⟨0, ⟨#[]⟩, 0, 0, 0, 0, ⟨#[]⟩⟩, ⟨⟨0, 0, 0, 0⟩, 0⟩, ⟨0, 0, 0, 0⟩, ⟨#[]⟩⟩)) zeroValue83 rfl) rfl fun b34 => .opg (G.str .t1 .g0 .k0 (.mk (cs' := (api_Tx.cs x30)) sizeOf83 rfl rfl rfl rfl)) rfl fun _ _ => .nil <| .then <| .reg rfl <| .opp (P.mov .g8) rfl <| .opp (P.mov .g8) rfl <| .op (V.ld (v := Ag (api_Tx.cs x30)) .t2 .k0 (.agg isAgg83 sizeOf83 rfl rfl)) rfl ?_
      cases h
    · rw [if_neg (ne_true_of_eq_false c26)] at h
      refine .exit <| .thx <| .thx <| .inb <| .then <| .seq <| .seq <| .reg rfl <| .opp (P.mov .g7) rfl <| .opp (P.nilc .t0) rfl <| .opp (P.fa .t0 fa_110_5 rfl) rfl <| .op (V.ld (v := nilSl) .t0 .k2 (.one isAgg108 rfl)) rfl ?_
      refine .opp (P.lenn .g0 runUnderlying108) rfl <| .opp (P.mov .k) rfl <| .nil <| .then <| .block <| .rounds 1 <| .rd <| .seq <| .reg rfl <| .opp (P.bin (v := Bo false) .g0 .g1 (BinV.lss.boolc (by decide))) rfl <| .nil <| .then ?_
      refine .seq <| .condF .t0 <| .exit <| .thx <| .thx <| .inb <| .then <| .seq <| .drawl [lst 83 25 u25 (r23.map api_Tx.cs), bx chain_Chain.bd chain_Chain.fp v01 a1, blk b7 110 (router_Router.cs y5 u8 u9 u10), lst 172 9 u9 (y5.asks.map api_Ask.cs), lst 174 16 u10 (y5.bids.map api_Bid.cs), blk b3 255 (router_sides.cs ⟨none, none, (), [], []⟩ v01 v02 nilSl nilSl), bx chain_Chain.bd chain_Chain.fp v02 a2] [rows 27 u22 (r20.map api_Event.cs)] (Ls.of (.cons .k0 (.cons .k0 (.cons .k0 (.cons .k1 (.cons .k1 (.cons .k1 (.cons .k1 .nil)))))))) (Rs.cons Mm.m0 Rs.nil) 12 (.on 0 .pu (.on 1 .pu (.on 2 .pu (.on 3 .pu (.on 5 .pu (.on 6 .pu (.on 7 .pu (.on 4 .ld (.on 8 .ld (.on 9 .go (.on 10 .go (.on 11 .go .nl)))))))))))) follows_mixed (.thn .body) (by kernel_rfl) <| .dpu rfl (.n rfl) (P.mov .g9) rfl rfl <| .dpu rfl (.n rfl) (P.mov .t11) rfl rfl <| .dpu rfl (.n rfl) (P.nilc .t0) rfl rfl ?_
      refine .dpu rfl (.n rfl) (P.fa .t0 fa_110_2 rfl) rfl rfl <| .dpu rfl (.n rfl) (P.mov .t11) rfl rfl <| .dpu rfl (.n rfl) (P.nilc .t0) rfl rfl <| .dpu rfl (.n rfl) (P.fa .t0 fa_255_2 rfl) rfl rfl <| .dld rfl (.n rfl) (V.ld (v := u8) .t1 .k2 (.one isAgg104 rfl)) (fun _ h => (h.imp (Ls.of (.cons .k0 (.cons .k0 (.cons .k0 (.cons .k1 (.cons .k1 (.cons .k1 (.cons .k1 .nil))))))))).ro (Rs.cons Mm.m0 Rs.nil)) rfl rfl <| .dld rfl (.n rfl) (V.ld (v := nilSl) .t1 .k5 (.one isAgg116 rfl)) (fun _ h => (h.imp (Ls.of (.cons .k0 (.cons .k0 (.cons .k0 (.cons .k1 (.cons .k1 (.cons .k1 (.cons .k1 .nil))))))))).ro (Rs.cons Mm.m0 Rs.nil)) rfl rfl <| .rnil0 1 ?_
      obtain ⟨r35, hr36, h⟩ := bnd_eq h
      refine .dgo rfl (.n rfl) (G.call call166 (.cons .t1 (.cons .t0 .nil)) (S_journal_Append_bx_n0 u8 y5.disk nilSl r35 hr36) (.cons .k3 .nil) (.cons Mm.m0 .nil) (fun _ _ => rfl) (fun _ _ => rfl) rfl) (.inr fun _ _ _ h => (h.imp (Ls.of (.cons .k1 (.cons .k1 (.cons .k1 (.cons .k1 (.cons .k1 (.cons .k1 (.cons .k1 .nil))))))))).ro (Rs.cons Mm.m1 Rs.nil)) fun _ _ => .dgo rfl (.n rfl) (OpV.g (OpP.toV (P.asg .t1)) rfl) (.inr fun _ _ _ h => (h.imp (Ls.of (.cons .k1 (.cons .k1 (.cons .k1 (.cons .k1 (.cons .k1 (.cons .k1 (.cons .k1 .nil))))))))).ro (Rs.cons Mm.m1 Rs.nil)) fun _ _ => .dgo rfl (.n rfl) (OpV.g (OpP.toV (P.asg .t1)) rfl) (.inr fun _ _ _ h => (h.imp (Ls.of (.cons .k1 (.cons .k1 (.cons .k1 (.cons .k1 (.cons .k1 (.cons .k1 (.cons .k1 .nil))))))))).ro (Rs.cons Mm.m1 Rs.nil)) fun _ _ => .dnil <| .then <| .ret ?_
      cases h
      exact .bxc router_Router.bd router_Router.fp (b7, u8, u9, u10) (⟨y5.router, y5.d, r35.2, y5.asks, y5.bids, y5.mirrors, y5.down, y5.made⟩ : router_Router) (z := (pt b7 0)) rfl (.cons .k3 (.cons .k0 (.cons .k2 (.cons .k2 .nil)))) <| .lnil 176 43 <| .lnil 181 26 <| .finw ⟨b3, v01, v02, nilSl, nilSl⟩ (.r2 rfl (.tmp .g1) (.tmp .g0)) trivial (Ls.of (.cons .k2 (.cons .k3 (.cons .k4 (.cons .k3 (.cons .k1 (.cons .k0 .nil))))))) .nil
attribute [irreducible] router_Router_look_bx_bx_bx
noncomputable def router_Router_Look_bx_bx_bx (a0 : Option router_Router) (a1 : Option chain_Chain) (a2 : Option chain_Chain) : Option ((List api_Message) × (List api_Send) × (Option router_Router)) :=
  Option.bind (router_Router_Down_bx a0) fun r1 => if r1 = true then (some ((([] : List api_Message), ([] : List api_Send), a0))) else (Option.bind (router_Router_look_bx_bx_bx a0 a1 a2) fun r4 => if (decide (r4.2.1 ≠ 0)) = true then none else (Option.bind r4.2.2 fun (y13 : router_Router) => Option.bind (disk_Disk_Sync_bx y13.disk) fun r19 => some ((r4.1.mail, r4.1.sends, (some (⟨y13.router, y13.d, r19.2, y13.asks, y13.bids, y13.mirrors, y13.down, y13.made⟩ : router_Router))))))
set_option maxRecDepth 20000 in
set_option maxHeartbeats 8000000 in
theorem S_router_Router_Look_bx_bx_bx (v00 : Value) (a0 : Option router_Router) (v01 : Value) (a1 : Option chain_Chain) (v02 : Value) (a2 : Option chain_Chain) (r : (List api_Message) × (List api_Send) × (Option router_Router)) (h : router_Router_Look_bx_bx_bx a0 a1 a2 = some r) :
    SpecF Tryz.prog 83 [v00, v01, v02] [bx router_Router.bd router_Router.fp v00 a0, bx chain_Chain.bd chain_Chain.fp v01 a1, bx chain_Chain.bd chain_Chain.fp v02 a2] [] (fun z : Value × Value => True) (fun z => Tu [z.1, z.2]) (fun z M => bx router_Router.bd router_Router.fp v00 r.2.2 :: bx chain_Chain.bd chain_Chain.fp v01 a1 :: bx chain_Chain.bd chain_Chain.fp v02 a2 :: lst 176 43 z.1 (r.1.map api_Message.cs) :: lst 181 26 z.2 (r.2.1.map api_Send.cs) ::  M) (fun z M =>  M) := by
  refine .of func83 rfl ntmps83 rfl fun w0 D0 G0 => ?_
  unfold router_Router_Look_bx_bx_bx at h
  refine .seq <| .reg rfl <| .op0 (OpP.toV (P.asg .k)) rfl <| .op0 (OpP.toV (P.asg .k)) rfl <| .nil <| .then <| .seq <| .seq <| .reg rfl <| .opp (P.mov .g0) rfl ?_
  obtain ⟨r1, hr2, h⟩ := bnd_eq h
  refine .opg (G.call call82 (.cons .t0 .nil) (S_router_Router_Down_bx v00 a0 r1 hr2) (.cons .k0 .nil) .nil (fun _ _ => rfl) (fun _ _ => rfl) rfl) rfl fun _ _ => .nil <| .then <| .cond .t0 (fun c3 => ?_) (fun c3 => ?_)
  · rw [if_pos c3] at h
    refine .seq <| .reg rfl <| .opp (P.asg .k) rfl <| .opp (P.asg .k) rfl <| .nil <| .then <| .ret <| .thr ?_
    cases h
    exact .lnil 176 43 <| .lnil 181 26 <| .finw ⟨nilSl, nilSl⟩ (.r2 rfl (.tmp .g1) (.tmp .g0)) trivial (Ls.of (.cons .k2 (.cons .k2 (.cons .k2 (.cons .k1 (.cons .k0 .nil)))))) .nil
  · rw [if_neg (ne_true_of_eq_false c3)] at h
    refine .skip <| .then <| .seq <| .reg rfl <| .opp (P.mov .g0) rfl <| .opp (P.mov .t2) rfl <| .opp (P.mov .t3) rfl ?_
    obtain ⟨r4, hr5, h⟩ := bnd_eq h
    refine .opg (G.call call139 (.cons .t2 (.cons .t1 (.cons .t0 .nil))) (S_router_Router_look_bx_bx_bx v00 a0 v01 a1 v02 a2 r4 hr5) (.cons .k0 (.cons .k0 (.cons .k0 .nil))) .nil (fun _ _ => rfl) (fun _ _ => rfl) rfl) rfl fun ⟨b6, u7, u8, u9, u10⟩ _ => .opp (P.mov .t0) rfl <| .opp (P.ext (v := pt b6 0) .g0 rfl) rfl <| .opp (P.ext (v := N r4.2.1) .t1 rfl) rfl <| .opp (P.asg .t1) rfl <| .opp (P.asg .t1) rfl <| .nil <| .then <| .seq <| .seq <| .reg rfl <| .opp (P.mov .t0) rfl ?_
    refine .opp (P.bin .t0 .k .neq) rfl <| .nil <| .then <| .cond .t0 (fun c11 => ?_) (fun c11 => ?_)
    · rw [if_pos c11] at h
      refine .seq <| .reg rfl <| .opp (P.mov .t1) rfl ?_
      cases h
    · rw [if_neg (ne_true_of_eq_false c11)] at h
      refine .skip <| .then <| .seq <| .reg rfl <| .opp (P.mov .t1) rfl ?_
      obtain ⟨y13, hy14, h⟩ := bnd_eq h
      refine .bxo .k0 hy14 (fun _ _ _ => rfl) fun ⟨b15, u16, u17, u18⟩ hz12 => ?_
      replace hz12 : v00 = pt b15 0 := hz12
      subst hz12
      refine .opp (P.nilc .t0) rfl <| .opp (P.fa .t0 fa_110_2 rfl) rfl <| .op (V.ld (v := u16) .t0 .k0 (.one isAgg104 rfl)) rfl ?_
      obtain ⟨r19, hr20, h⟩ := bnd_eq h
      refine .opg (G.call call137 (.cons .t0 .nil) (S_disk_Disk_Sync_bx u16 y13.disk r19 hr20) (.cons .k1 .nil) .nil (fun _ _ => rfl) (fun _ _ => rfl) rfl) rfl fun _ _ => .drop .k0 <| .nil <| .then <| .seq <| .draw 10 (.on 0 .pu (.on 1 .pu (.on 2 .pu (.on 4 .pu (.on 5 .pu (.on 6 .pu (.on 3 .ld (.on 7 .ld (.on 8 .go (.on 9 .go .nl)))))))))) follows_mixed (.thn .body) (by kernel_rfl) <| .dpu rfl (.n rfl) (P.mov .g0) rfl rfl <| .dpu rfl (.n rfl) (P.nilc .t0) rfl rfl <| .dpu rfl (.n rfl) (P.fa .t0 fa_255_3 rfl) rfl rfl <| .dpu rfl (.n rfl) (P.mov .t1) rfl rfl <| .dpu rfl (.n rfl) (P.nilc .t0) rfl rfl <| .dpu rfl (.n rfl) (P.fa .t0 fa_255_4 rfl) rfl rfl ?_
      refine .dld rfl (.n rfl) (V.ld (v := u9) .t1 .k6 (.one isAgg117 rfl)) (fun _ h => h) rfl rfl <| .dld rfl (.n rfl) (V.ld (v := u10) .t1 .k6 (.one isAgg118 rfl)) (fun _ h => h) rfl rfl <| .dgo rfl (.n rfl) (OpV.g (OpP.toV (P.asg .t1)) rfl) (.inr fun _ _ _ h => h) fun _ _ => .dgo rfl (.n rfl) (OpV.g (OpP.toV (P.asg .t1)) rfl) (.inr fun _ _ _ h => h) fun _ _ => .dnil <| .then <| .ret ?_
      cases h
      exact .bxc router_Router.bd router_Router.fp (b15, u16, u17, u18) (⟨y13.router, y13.d, r19.2, y13.asks, y13.bids, y13.mirrors, y13.down, y13.made⟩ : router_Router) (z := (pt b15 0)) rfl (.cons .k1 (.cons .k0 (.cons .k0 (.cons .k0 .nil)))) <| .finw ⟨u9, u10⟩ (.r2 rfl (.tmp .g1) (.tmp .g0)) trivial (Ls.of (.cons .k0 (.cons .k0 (.cons .k0 (.cons .k1 (.cons .k1 .nil)))))) .nil
attribute [irreducible] router_Router_Look_bx_bx_bx
noncomputable def field_New  : field_Out :=
  (⟨[], 0, true⟩ : field_Out)
set_option maxRecDepth 20000 in
set_option maxHeartbeats 8000000 in
theorem S_field_New  (r : field_Out) (h : field_New  = r) :
    SpecF Tryz.prog 181 [] [] [] (fun z : Nat × Value => True) (fun z => pt z.1 0) (fun z M => blk z.1 368 (field_Out.cs r z.2) :: lst 5 1 z.2 (r.b.map (fun x => [B8 x])) ::  M) (fun z M =>  M) := by
  refine .of func181 rfl ntmps181 rfl fun w0 D0 G0 => ?_
  unfold field_New at h
  refine .seq <| .reg rfl <| .op0 (OpP.toV (P.asg .k)) rfl <| .nil <| .then <| .seq <| .reg rfl <| .opp (P.bld (v := Ag (field_Out.cs ⟨[], 0, true⟩ nilSl)) (.cons .k .nil) (bld_run zeroValue368 runUnderlying368 pl_368 (by kernel_rfl))) rfl <| .opx (X.box (cs := (field_Out.cs ⟨[], 0, true⟩ nilSl)) .t0 rfl) rfl fun b1 => .opp (P.asg .t0) rfl <| .nil <| .then ?_
  refine .ret ?_
  subst h
  exact .lnil 5 1 <| .finw ⟨b1, nilSl⟩ (.r1 rfl (.tmp .g0)) trivial (Ls.of (.cons .k1 (.cons .k0 .nil))) .nil
attribute [irreducible] field_New
noncomputable def field_Out_put (a0 : field_Out) (a1 : List UInt8) (a2 : Int) : Option (field_Out) :=
  thn (if (!a0.made) = true then true else (decide (a0.e_ ≠ 0))) fun (y1 : Bool) => if y1 = true then (some a0) else (if (decide (a2 ≠ 0)) = true then (some (⟨a0.b, a2, a0.made⟩ : field_Out)) else (if (decide ((IntKind.i64.wrap ((a0.b.length : Int) + (a1.length : Int))) > 8192)) = true then (some (⟨a0.b, 5, a0.made⟩ : field_Out)) else (grd ((a0.b.length + a1.length) * 1 ≤ 140737488355328) <| some ((⟨(a0.b ++ a1), a0.e_, a0.made⟩ : field_Out)))))
set_option maxRecDepth 20000 in
set_option maxHeartbeats 8000000 in
theorem S_field_Out_put (b00 : Nat) (a0 : field_Out) (z00a : Value) (v01 : Value) (a1 : List UInt8) (a2 : Int) (r : field_Out) (h : field_Out_put a0 a1 a2 = some r) :
    SpecF Tryz.prog 277 [pt b00 0, v01, N a2] [blk b00 368 (field_Out.cs a0 z00a), lst 5 1 z00a (a0.b.map (fun x => [B8 x]))] [rows 1 v01 (a1.map (fun x => [B8 x]))] (fun z : Value => True) (fun z => Tu []) (fun z M => blk b00 368 (field_Out.cs r z) :: lst 5 1 z (r.b.map (fun x => [B8 x])) ::  M) (fun z M =>  M) := by
  refine .of func277 rfl ntmps277 rfl fun w0 D0 G0 => ?_
  unfold field_Out_put at h
  refine .block ?_
  obtain ⟨y1, hj3, h⟩ := thn_eq h
  refine .cutx (γ := Unit) (E1 := fun z2 => [(15, Bo y1), (0, pt b00 0), (1, v01), (2, N a2)]) (L1 := fun z2 => [blk b00 368 (field_Out.cs a0 z00a), lst 5 1 z00a (a0.b.map (fun x => [B8 x]))]) (R1 := fun z2 => [rows 1 v01 (a1.map (fun x => [B8 x]))]) ?_ (fun z2 => ?_)
  · clear h
    refine .reg rfl <| .opp (P.mov .g0) rfl <| .opp (P.bin .t0 .k (.ptr_eql (e := 368) (by kernel_rfl))) rfl <| .opp (P.mov .t0) rfl <| .gyes rfl .g0 <| .opp (P.mov .g1) rfl <| .gyes rfl .g1 <| .opp (P.nilc .t0) rfl <| .gyes rfl .g1 <| .opp (P.fa .t0 fa_368_2 rfl) rfl <| .gyes rfl .g1 <| .op (V.ld (v := Bo a0.made) .t0 .k0 (.one isAgg4 rfl)) rfl ?_
    refine .gyes rfl .g1 <| .opp (P.not .t0) rfl <| .opp (P.pickF .t1 .t0) rfl <| .opp (P.mov .t0) rfl <| .split .k0 (fun c4 => ?_) (fun c4 => ?_)
    · rw [if_pos c4] at hj3
      refine .gno rfl .g0 rfl rfl <| .gno rfl .g0 rfl rfl <| .gno rfl .g0 rfl rfl <| .gno rfl .g0 rfl rfl <| .gno rfl .g0 rfl rfl <| .opp (P.pickT .t0 .k) rfl <| .opp (P.asg .t0) rfl <| .nil ?_
      subst hj3
      exact .stj () (.cons Mm.m0 (.cons Mm.m1 (.cons Mm.m2 (.cons Mm.m3 .nil)))) (.of (.cons .k0 (.cons .k0 .nil))) (.cons Mm.m0 .nil)
    · rw [if_neg (ne_true_of_eq_false c4)] at hj3
      refine .gyes rfl .g0 <| .opp (P.mov .g1) rfl <| .gyes rfl .g1 <| .opp (P.nilc .t0) rfl <| .gyes rfl .g1 <| .opp (P.fa .t0 fa_368_1 rfl) rfl <| .gyes rfl .g1 <| .op (V.ld (v := N a0.e_) .t0 .k0 (.one isAgg26 rfl)) rfl <| .gyes rfl .g1 <| .opp (P.bin .t0 .k .neq) rfl <| .opp (P.pickF .t1 .t0) rfl <| .opp (P.asg .t0) rfl ?_
      refine .nil ?_
      subst hj3
      exact .stj () (.cons Mm.m0 (.cons Mm.m1 (.cons Mm.m2 (.cons Mm.m3 .nil)))) (.of (.cons .k0 (.cons .k0 .nil))) (.cons Mm.m0 .nil)
  · clear hj3
    refine .cond .t0 (fun c5 => ?_) (fun c5 => ?_)
    · rw [if_pos c5] at h
      refine .skip <| .inn ?_
      cases h
      exact .finwn z00a (.r0 rfl) trivial (Ls.of (.cons .k0 (.cons .k0 .nil))) .nil
    · rw [if_neg (ne_true_of_eq_false c5)] at h
      refine .seq <| .reg rfl <| .opp (P.mov .g2) rfl <| .opp (P.bin .t0 .k .neq) rfl <| .opp (P.asg .t0) rfl <| .nil <| .then <| .cond .t0 (fun c6 => ?_) (fun c6 => ?_)
      · rw [if_pos c6] at h
        refine .reg rfl <| .opp (P.mov .t0) rfl <| .opp (P.mov .t2) rfl <| .opp (P.nilc .t1) rfl <| .opp (P.fa .t0 fa_368_1 rfl) rfl <| .opg (G.str .t1 .t0 .k0 (.mk (cs' := (field_Out.cs ⟨a0.b, a2, a0.made⟩ z00a)) sizeOf26 rfl rfl rfl rfl)) rfl fun _ _ => .nil <| .inn ?_
        cases h
        exact .finwn z00a (.r0 rfl) trivial (Ls.of (.cons .k0 (.cons .k0 .nil))) .nil
      · rw [if_neg (ne_true_of_eq_false c6)] at h
        refine .seq <| .reg rfl <| .opp (P.mov .g0) rfl <| .opp (P.nilc .t0) rfl <| .opp (P.fa .t0 fa_368_0 rfl) rfl <| .op (V.ld (v := z00a) .t0 .k0 (.one isAgg70 rfl)) rfl <| .op (V.lnl (n := a0.b.length) .t0 .k1 map_len runUnderlying70) rfl <| .opp (P.mov .g2) rfl <| .op (V.lnr (n := a1.length) .t0 Mm.m0 map_len runUnderlying70) rfl <| .opp (P.bin .t1 .t0 .add) rfl <| .opp (P.bin .t0 .k .gtr) rfl <| .opp (P.asg .t0) rfl ?_
        refine .nil <| .then <| .cond .t0 (fun c7 => ?_) (fun c7 => ?_)
        · rw [if_pos c7] at h
          refine .reg rfl <| .opp (P.mov .t0) rfl <| .opp (P.nilc .t0) rfl <| .opp (P.fa .t0 fa_368_1 rfl) rfl <| .opg (G.str .k .t0 .k0 (.mk (cs' := (field_Out.cs ⟨a0.b, 5, a0.made⟩ z00a)) sizeOf26 rfl rfl rfl rfl)) rfl fun _ _ => .nil <| .inn ?_
          cases h
          exact .finwn z00a (.r0 rfl) trivial (Ls.of (.cons .k0 (.cons .k0 .nil))) .nil
        · rw [if_neg (ne_true_of_eq_false c7)] at h
          refine .reg rfl <| .opp (P.mov .g0) rfl <| .opp (P.mov .t1) rfl <| .opp (P.nilc .t0) rfl <| .opp (P.fa .t0 fa_368_0 rfl) rfl <| .op (V.ld (v := z00a) .t0 .k0 (.one isAgg70 rfl)) rfl <| .opp (P.mov .t2) rfl ?_
          obtain ⟨hb9, h⟩ := grd_eq h
          refine .opg (G.app (by_ := 1) .t1 .t0 .k1 (.inl Mm.m0) runUnderlying70 runUnderlying70 sizeOf5 typeInfo5 rfl rfl zeroValue5 rfl (one_map one_5 _) (by simpa using hb9) rfl) rfl fun u8 _ => .conseq .k0 (q := lst 5 1 u8 ((a0.b ++ a1).map (fun x => [B8 x]))) (fun _ hh => by simpa [List.map_append] using hh) <| .opp (P.nilc .t1) rfl <| .opp (P.fa .t0 fa_368_0 rfl) rfl <| .onel .k0 fun ho10 => .opg (G.str .t1 .t0 .k1 (.mk1 (cs' := (field_Out.cs ⟨[], a0.e_, a0.made⟩ u8)) sizeOf70 rfl ho10 rfl rfl)) rfl fun _ _ => .nil <| .inn ?_
          cases h
          exact .finwn u8 (.r0 rfl) trivial (Ls.of (.cons .k0 (.cons .k0 .nil))) .nil
attribute [irreducible] field_Out_put
noncomputable def field_Out_Text (a0 : field_Out) (a1 : ByteArray) : Option (field_Out) :=
  thn (if (decide ((a1.size : Int) > 1024)) = true then 5 else 0) fun (y1 : Int) => Option.bind (blob_Num (a1.size : Int) 2) fun r5 => grd (a1.size ≤ 140737488355328) <| Option.bind (blob_Cat_n2 r5 (a1.data.toList)) fun r13 => Option.bind (field_Out_put a0 r13 y1) fun r16 => some r16
set_option maxRecDepth 20000 in
set_option maxHeartbeats 8000000 in
theorem S_field_Out_Text (b00 : Nat) (a0 : field_Out) (z00a : Value) (a1 : ByteArray) (r : field_Out) (h : field_Out_Text a0 a1 = some r) :
    SpecF Tryz.prog 208 [pt b00 0, .string a1] [blk b00 368 (field_Out.cs a0 z00a), lst 5 1 z00a (a0.b.map (fun x => [B8 x]))] [] (fun z : Value => True) (fun z => Tu []) (fun z M => blk b00 368 (field_Out.cs r z) :: lst 5 1 z (r.b.map (fun x => [B8 x])) ::  M) (fun z M =>  M) := by
  refine .of func208 rfl ntmps208 rfl fun w0 D0 G0 => ?_
  unfold field_Out_Text at h
  refine .seq <| .reg rfl <| .opp (P.asg .k) rfl <| .nil <| .then ?_
  obtain ⟨y1, hj3, h⟩ := thn_eq h
  refine .cutx (γ := Unit) (E1 := fun z2 => [(4, N y1), (0, pt b00 0), (1, .string a1)]) (L1 := fun z2 => [blk b00 368 (field_Out.cs a0 z00a), lst 5 1 z00a (a0.b.map (fun x => [B8 x]))]) (R1 := fun z2 => []) ?_ (fun z2 => ?_)
  · clear h
    refine .seq <| .reg rfl <| .opp (P.mov .g2) rfl <| .opp (P.lens .t0 runUnderlying9) rfl <| .opp (P.bin .t0 .k .gtr) rfl <| .nil <| .then <| .cond .t0 (fun c4 => ?_) (fun c4 => ?_)
    · rw [if_pos c4] at hj3
      refine .reg rfl <| .drop .k0 <| .opp (P.asg .k) rfl <| .nil ?_
      subst hj3
      exact .stj () (.cons Mm.m0 (.cons Mm.m1 (.cons Mm.m2 .nil))) (.of (.cons .k0 (.cons .k0 .nil))) .nil
    · rw [if_neg (ne_true_of_eq_false c4)] at hj3
      refine .skip ?_
      subst hj3
      exact .stj () (.cons Mm.m0 (.cons Mm.m1 (.cons Mm.m2 .nil))) (.of (.cons .k0 (.cons .k0 .nil))) .nil
  · clear hj3
    refine .reg rfl <| .opp (P.mov .t1) rfl <| .opp (P.mov .g2) rfl <| .opp (P.lens .t0 runUnderlying9) rfl ?_
    obtain ⟨r5, hr6, h⟩ := bnd_eq h
    refine .opg (G.call call93 (.cons .t0 (.cons .k .nil)) (S_blob_Num (a1.size : Int) 2 r5 hr6) .nil .nil (fun _ _ => rfl) (fun _ _ => rfl) rfl) rfl fun u7 _ => .opp (P.mov .t3) rfl ?_
    obtain ⟨hb9, h⟩ := grd_eq h
    refine .opg (G.s2b (e := 5) .t0 (by kernel_rfl) (by kernel_rfl) (by kernel_rfl) hb9 rfl) rfl fun u8 _ => .onel .k0 fun ho11 => .oner Mm.m0 fun ho12 => .opg (G.bsln (xs := [[u7], [u8]]) (.cons .t1 (.cons .t0 .nil)) runUnderlying116 sizeOf70 zeroValue70 (fill2 ho11 ho12) rfl rfl rfl rfl rfl) rfl fun u10 _ => .frz .k0 <| .frz .k0 ?_
    obtain ⟨r13, hr14, h⟩ := bnd_eq h
    refine .opg (G.call call92 (.cons .t0 .nil) (S_blob_Cat_n2 u10 u7 r5 u8 (a1.data.toList) r13 hr14) .nil (.cons Mm.m1 (.cons Mm.m0 (.cons Mm.m2 .nil))) (fun _ _ => rfl) (fun _ _ => rfl) rfl) rfl fun u15 _ => .opp (P.mov .t2) rfl <| .frz .k0 ?_
    obtain ⟨r16, hr17, h⟩ := bnd_eq h
    refine .opg (G.call call277 (.cons .t2 (.cons .t1 (.cons .t0 .nil))) (S_field_Out_put b00 a0 z00a u15 r13 y1 r16 hr17) (.cons .k0 (.cons .k0 .nil)) (.cons Mm.m0 .nil) (fun _ _ => rfl) (fun _ _ => rfl) rfl) rfl fun u18 _ => .drop .k0 <| .nil ?_
    cases h
    exact .finwn u18 (.r0 rfl) trivial (Ls.of (.cons .k0 (.cons .k0 .nil))) .nil
attribute [irreducible] field_Out_Text
noncomputable def field_Out_Num (a0 : field_Out) (a1 : Int) : Option (field_Out) :=
  thn (thn (if (decide (a1 < 0)) = true then true else (decide (a1 > 1099511627776))) fun (y4 : Bool) => if y4 = true then 4 else 0) fun (y1 : Int) => Option.bind (blob_Num a1 6) fun r9 => Option.bind (field_Out_put a0 r9 y1) fun r12 => some r12
set_option maxRecDepth 20000 in
set_option maxHeartbeats 8000000 in
theorem S_field_Out_Num (b00 : Nat) (a0 : field_Out) (z00a : Value) (a1 : Int) (r : field_Out) (h : field_Out_Num a0 a1 = some r) :
    SpecF Tryz.prog 205 [pt b00 0, N a1] [blk b00 368 (field_Out.cs a0 z00a), lst 5 1 z00a (a0.b.map (fun x => [B8 x]))] [] (fun z : Value => True) (fun z => Tu []) (fun z M => blk b00 368 (field_Out.cs r z) :: lst 5 1 z (r.b.map (fun x => [B8 x])) ::  M) (fun z M =>  M) := by
  refine .of func205 rfl ntmps205 rfl fun w0 D0 G0 => ?_
  unfold field_Out_Num at h
  refine .seq <| .reg rfl <| .opp (P.asg .k) rfl <| .nil <| .then ?_
  obtain ⟨y1, hj3, h⟩ := thn_eq h
  refine .cutx (γ := Unit) (E1 := fun z2 => [(4, N y1), (0, pt b00 0), (1, N a1)]) (L1 := fun z2 => [blk b00 368 (field_Out.cs a0 z00a), lst 5 1 z00a (a0.b.map (fun x => [B8 x]))]) (R1 := fun z2 => []) ?_ (fun z2 => ?_)
  · clear h
    obtain ⟨y4, hj6, hj3⟩ := thn_eq hj3
    refine .cutx (γ := Unit) (E1 := fun z5 => [(10, Bo y4), (4, N 0), (0, pt b00 0), (1, N a1)]) (L1 := fun z5 => [blk b00 368 (field_Out.cs a0 z00a), lst 5 1 z00a (a0.b.map (fun x => [B8 x]))]) (R1 := fun z5 => []) ?_ (fun z5 => ?_)
    · clear hj3
      refine .reg rfl <| .opp (P.mov .g2) rfl <| .opp (P.bin .t0 .k .lss) rfl <| .opp (P.mov .t0) rfl <| .split .k0 (fun c7 => ?_) (fun c7 => ?_)
      · rw [if_pos c7] at hj6
        refine .gno rfl .g0 rfl rfl <| .gno rfl .g0 rfl rfl <| .opp (P.pickT .t0 .k) rfl <| .nil ?_
        subst hj6
        exact .stj () (.cons Mm.m0 (.cons Mm.m1 (.cons Mm.m2 (.cons Mm.m3 .nil)))) (.of (.cons .k0 (.cons .k0 .nil))) .nil
      · rw [if_neg (ne_true_of_eq_false c7)] at hj6
        refine .gyes rfl .g0 <| .opp (P.mov .g3) rfl <| .gyes rfl .g1 <| .opp (P.bin .t0 .k .gtr) rfl <| .opp (P.pickF .t1 .t0) rfl <| .nil ?_
        subst hj6
        exact .stj () (.cons Mm.m0 (.cons Mm.m1 (.cons Mm.m2 (.cons Mm.m3 .nil)))) (.of (.cons .k0 (.cons .k0 .nil))) .nil
    · clear hj6
      refine .cond .t0 (fun c8 => ?_) (fun c8 => ?_)
      · rw [if_pos c8] at hj3
        refine .reg rfl <| .drop .k0 <| .opp (P.asg .k) rfl <| .nil ?_
        subst hj3
        exact .stj () (.cons Mm.m0 (.cons Mm.m1 (.cons Mm.m2 .nil))) (.of (.cons .k0 (.cons .k0 .nil))) .nil
      · rw [if_neg (ne_true_of_eq_false c8)] at hj3
        refine .skip ?_
        subst hj3
        exact .stj () (.cons Mm.m0 (.cons Mm.m1 (.cons Mm.m2 .nil))) (.of (.cons .k0 (.cons .k0 .nil))) .nil
  · clear hj3
    refine .reg rfl <| .opp (P.mov .t1) rfl <| .opp (P.mov .t2) rfl ?_
    obtain ⟨r9, hr10, h⟩ := bnd_eq h
    refine .opg (G.call call93 (.cons .t0 (.cons .k .nil)) (S_blob_Num a1 6 r9 hr10) .nil .nil (fun _ _ => rfl) (fun _ _ => rfl) rfl) rfl fun u11 _ => .opp (P.mov .t2) rfl <| .frz .k0 ?_
    obtain ⟨r12, hr13, h⟩ := bnd_eq h
    refine .opg (G.call call277 (.cons .t2 (.cons .t1 (.cons .t0 .nil))) (S_field_Out_put b00 a0 z00a u11 r9 y1 r12 hr13) (.cons .k0 (.cons .k0 .nil)) (.cons Mm.m0 .nil) (fun _ _ => rfl) (fun _ _ => rfl) rfl) rfl fun u14 _ => .drop .k0 <| .nil ?_
    cases h
    exact .finwn u14 (.r0 rfl) trivial (Ls.of (.cons .k0 (.cons .k0 .nil))) .nil
attribute [irreducible] field_Out_Num
noncomputable def deal_Put (a0 : field_Out) (a1 : api_Inv) : Option (field_Out) :=
  Option.bind (field_Out_Text a0 ⟨#[105, 110, 118]⟩) fun r2 => Option.bind (field_Out_Num r2 a1.User) fun r5 => Option.bind (field_Out_Text r5 a1.Root) fun r8 => Option.bind (field_Out_Num r8 a1.Router) fun r11 => Option.bind (field_Out_Num r11 a1.Send) fun r14 => Option.bind (field_Out_Num r14 a1.Recv) fun r17 => Option.bind (field_Out_Num r17 a1.To) fun r20 => Option.bind (field_Out_Text r20 a1.Id) fun r23 => some r23
set_option maxRecDepth 20000 in
set_option maxHeartbeats 8000000 in
theorem S_deal_Put (b00 : Nat) (a0 : field_Out) (z00a : Value) (a1 : api_Inv) (r : field_Out) (h : deal_Put a0 a1 = some r) :
    SpecF Tryz.prog 182 [pt b00 0, Ag (api_Inv.cs a1)] [blk b00 368 (field_Out.cs a0 z00a), lst 5 1 z00a (a0.b.map (fun x => [B8 x]))] [] (fun z : Value => True) (fun z => Tu []) (fun z M => blk b00 368 (field_Out.cs r z) :: lst 5 1 z (r.b.map (fun x => [B8 x])) ::  M) (fun z M =>  M) := by
  refine .of func182 rfl ntmps182 rfl fun w0 D0 G0 => ?_
  unfold deal_Put at h
  refine .seq <| .reg rfl <| .opx (X.box (cs := (api_Inv.cs a1)) .t1 rfl) rfl fun b1 => .nil <| .then <| .seq <| .reg rfl <| .opp (P.mov .g1) rfl ?_
  obtain ⟨r2, hr3, h⟩ := bnd_eq h
  refine .opg (G.call call208 (.cons .t0 (.cons .k .nil)) (S_field_Out_Text b00 a0 z00a ⟨#[105, 110, 118]⟩ r2 hr3) (.cons .k1 (.cons .k1 .nil)) .nil (fun _ _ => rfl) (fun _ _ => rfl) rfl) rfl fun u4 _ => .drop .k0 <| .nil <| .then <| .seq <| .reg rfl <| .opp (P.mov .g1) rfl <| .opp (P.fa .g1 fa_79_0 rfl) rfl <| .op (V.ld (v := N a1.User) .t0 .k2 (.one isAgg3 rfl)) rfl ?_
  obtain ⟨r5, hr6, h⟩ := bnd_eq h
  refine .opg (G.call call205 (.cons .t1 (.cons .t0 .nil)) (S_field_Out_Num b00 r2 u4 a1.User r5 hr6) (.cons .k0 (.cons .k0 .nil)) .nil (fun _ _ => rfl) (fun _ _ => rfl) rfl) rfl fun u7 _ => .drop .k0 <| .nil <| .then <| .seq <| .reg rfl <| .opp (P.mov .g1) rfl <| .opp (P.fa .g1 fa_79_1 rfl) rfl <| .op (V.ld (v := .string a1.Root) .t0 .k2 (.one isAgg9 rfl)) rfl ?_
  obtain ⟨r8, hr9, h⟩ := bnd_eq h
  refine .opg (G.call call208 (.cons .t1 (.cons .t0 .nil)) (S_field_Out_Text b00 r5 u7 a1.Root r8 hr9) (.cons .k0 (.cons .k0 .nil)) .nil (fun _ _ => rfl) (fun _ _ => rfl) rfl) rfl fun u10 _ => .drop .k0 <| .nil <| .then <| .seq <| .seq <| .reg rfl <| .opp (P.fa .g0 fa_79_2 rfl) rfl <| .op (V.ld (v := N a1.Router) .t0 .k2 (.one isAgg3 rfl)) rfl <| .opp (P.fa .g1 fa_79_3 rfl) rfl <| .op (V.ld (v := N a1.Send) .t0 .k2 (.one isAgg3 rfl)) rfl <| .opp (P.fa .g2 fa_79_4 rfl) rfl ?_
  refine .op (V.ld (v := N a1.Recv) .t0 .k2 (.one isAgg3 rfl)) rfl <| .opp (P.fa .g3 fa_79_5 rfl) rfl <| .op (V.ld (v := N a1.To) .t0 .k2 (.one isAgg3 rfl)) rfl <| .opp (P.bld (v := Ag (A4_i64.cs ⟨a1.Router, a1.Send, a1.Recv, a1.To⟩)) (.cons .t3 (.cons .t2 (.cons .t1 (.cons .t0 .nil)))) (bld_runA zeroValue55 runUnderlying55 sizeOf3 (by kernel_rfl))) rfl <| .opp (P.mov .k) rfl <| .nil <| .then <| .block <| .rounds 5 <| .rd <| .seq <| .reg rfl ?_
  refine .opp (P.bin (v := Bo true) .g0 .k (BinV.lss.boolc (by decide))) rfl <| .nil <| .then <| .seq <| .condT .t0 <| .skip <| .then <| .seq <| .block <| .seq <| .reg rfl <| .opp (P.idx (i := 0) (v := N a1.Router) .g1 .g0 rfl runUnderlying55 sizeOf3 (by decide) (.one isAgg3 rfl)) rfl ?_
  refine .opp (P.asg .t0) rfl <| .nil <| .then <| .reg rfl <| .opp (P.mov .g4) rfl <| .opp (P.mov .t1) rfl ?_
  obtain ⟨r11, hr12, h⟩ := bnd_eq h
  refine .opg (G.call call205 (.cons .t1 (.cons .t0 .nil)) (S_field_Out_Num b00 r8 u10 a1.Router r11 hr12) (.cons .k0 (.cons .k0 .nil)) .nil (fun _ _ => rfl) (fun _ _ => rfl) rfl) rfl fun u13 _ => .drop .k0 <| .nil <| .inn <| .then <| .reg rfl <| .opp (P.bin (v := N 1) .g0 .k (.addc (by decide))) rfl <| .drop .k1 <| .opp (P.mov .t0) rfl <| .nil <| .then <| .rd ?_
  refine .seq <| .reg rfl <| .opp (P.bin (v := Bo true) .g0 .k (BinV.lss.boolc (by decide))) rfl <| .nil <| .then <| .seq <| .condT .t0 <| .skip <| .then <| .seq <| .block <| .seq ?_
  refine .reg rfl <| .opp (P.idx (i := 1) (v := N a1.Send) .g1 .g0 rfl runUnderlying55 sizeOf3 (by decide) (.one isAgg3 rfl)) rfl <| .opp (P.asg .t0) rfl <| .nil <| .then <| .reg rfl <| .opp (P.mov .g4) rfl <| .opp (P.mov .t1) rfl ?_
  obtain ⟨r14, hr15, h⟩ := bnd_eq h
  refine .opg (G.call call205 (.cons .t1 (.cons .t0 .nil)) (S_field_Out_Num b00 r11 u13 a1.Send r14 hr15) (.cons .k0 (.cons .k0 .nil)) .nil (fun _ _ => rfl) (fun _ _ => rfl) rfl) rfl fun u16 _ => .drop .k0 <| .nil <| .inn <| .then <| .reg rfl <| .opp (P.bin (v := N 2) .g0 .k (.addc (by decide))) rfl <| .drop .k1 <| .opp (P.mov .t0) rfl <| .nil <| .then <| .rd ?_
  refine .seq <| .reg rfl <| .opp (P.bin (v := Bo true) .g0 .k (BinV.lss.boolc (by decide))) rfl <| .nil <| .then <| .seq <| .condT .t0 <| .skip <| .then <| .seq <| .block <| .seq ?_
  refine .reg rfl <| .opp (P.idx (i := 2) (v := N a1.Recv) .g1 .g0 rfl runUnderlying55 sizeOf3 (by decide) (.one isAgg3 rfl)) rfl <| .opp (P.asg .t0) rfl <| .nil <| .then <| .reg rfl <| .opp (P.mov .g4) rfl <| .opp (P.mov .t1) rfl ?_
  obtain ⟨r17, hr18, h⟩ := bnd_eq h
  refine .opg (G.call call205 (.cons .t1 (.cons .t0 .nil)) (S_field_Out_Num b00 r14 u16 a1.Recv r17 hr18) (.cons .k0 (.cons .k0 .nil)) .nil (fun _ _ => rfl) (fun _ _ => rfl) rfl) rfl fun u19 _ => .drop .k0 <| .nil <| .inn <| .then <| .reg rfl <| .opp (P.bin (v := N 3) .g0 .k (.addc (by decide))) rfl <| .drop .k1 <| .opp (P.mov .t0) rfl <| .nil <| .then <| .rd ?_
  refine .seq <| .reg rfl <| .opp (P.bin (v := Bo true) .g0 .k (BinV.lss.boolc (by decide))) rfl <| .nil <| .then <| .seq <| .condT .t0 <| .skip <| .then <| .seq <| .block <| .seq ?_
  refine .reg rfl <| .opp (P.idx (i := 3) (v := N a1.To) .g1 .g0 rfl runUnderlying55 sizeOf3 (by decide) (.one isAgg3 rfl)) rfl <| .opp (P.asg .t0) rfl <| .nil <| .then <| .reg rfl <| .opp (P.mov .g4) rfl <| .opp (P.mov .t1) rfl ?_
  obtain ⟨r20, hr21, h⟩ := bnd_eq h
  refine .opg (G.call call205 (.cons .t1 (.cons .t0 .nil)) (S_field_Out_Num b00 r17 u19 a1.To r20 hr21) (.cons .k0 (.cons .k0 .nil)) .nil (fun _ _ => rfl) (fun _ _ => rfl) rfl) rfl fun u22 _ => .drop .k0 <| .nil <| .inn <| .then <| .reg rfl <| .opp (P.bin (v := N 4) .g0 .k (.addc (by decide))) rfl <| .drop .k1 <| .opp (P.mov .t0) rfl <| .nil <| .then <| .rd ?_
  refine .seq <| .reg rfl <| .opp (P.bin (v := Bo false) .g0 .k (BinV.lss.boolc (by decide))) rfl <| .nil <| .then <| .seq <| .condF .t0 <| .exit <| .thx <| .thx <| .inb <| .then ?_
  refine .reg rfl <| .opp (P.mov .t3) rfl <| .opp (P.fa .t3 fa_79_6 rfl) rfl <| .op (V.ld (v := .string a1.Id) .t0 .k2 (.one isAgg9 rfl)) rfl ?_
  obtain ⟨r23, hr24, h⟩ := bnd_eq h
  refine .opg (G.call call208 (.cons .t1 (.cons .t0 .nil)) (S_field_Out_Text b00 r20 u22 a1.Id r23 hr24) (.cons .k0 (.cons .k0 .nil)) .nil (fun _ _ => rfl) (fun _ _ => rfl) rfl) rfl fun u25 _ => .drop .k0 <| .nil ?_
  cases h
  exact .finwn u25 (.r0 rfl) trivial (Ls.of (.cons .k0 (.cons .k0 .nil))) .nil
attribute [irreducible] deal_Put
noncomputable def field_Out_Done (a0 : field_Out) : Option ((List UInt8) × Int) :=
  if (!a0.made) = true then (some ((([] : List UInt8), 9))) else (if (decide (a0.e_ ≠ 0)) = true then (some ((([] : List UInt8), a0.e_))) else (Option.bind (blob_Cat_n1 a0.b) fun r5 => some (r5, 0)))
set_option maxRecDepth 20000 in
set_option maxHeartbeats 8000000 in
theorem S_field_Out_Done (b00 : Nat) (a0 : field_Out) (z00a : Value) (r : (List UInt8) × Int) (h : field_Out_Done a0 = some r) :
    SpecF Tryz.prog 183 [pt b00 0] [blk b00 368 (field_Out.cs a0 z00a), lst 5 1 z00a (a0.b.map (fun x => [B8 x]))] [] (fun z : Value => True) (fun z => Tu [z, N r.2]) (fun z M => blk b00 368 (field_Out.cs a0 z00a) :: lst 5 1 z00a (a0.b.map (fun x => [B8 x])) :: lst 5 1 z (r.1.map (fun x => [B8 x])) ::  M) (fun z M =>  M) := by
  refine .of func183 rfl ntmps183 rfl fun w0 D0 G0 => ?_
  unfold field_Out_Done at h
  refine .seq <| .reg rfl <| .op0 (OpP.toV (P.asg .k)) rfl <| .op0 (OpP.toV (P.asg .k)) rfl <| .nil <| .then <| .seq <| .block <| .seq <| .reg rfl <| .opp (P.mov .g0) rfl <| .opp (P.bin .t0 .k (.ptr_eql (e := 368) (by kernel_rfl))) rfl ?_
  refine .opp (P.mov .t0) rfl <| .gyes rfl .g0 <| .opp (P.mov .g1) rfl <| .gyes rfl .g1 <| .opp (P.nilc .t0) rfl <| .gyes rfl .g1 <| .opp (P.fa .t0 fa_368_2 rfl) rfl <| .gyes rfl .g1 <| .op (V.ld (v := Bo a0.made) .t0 .k0 (.one isAgg4 rfl)) rfl <| .gyes rfl .g1 <| .opp (P.not .t0) rfl <| .opp (P.pickF .t1 .t0) rfl ?_
  refine .opp (P.asg .t0) rfl <| .nil <| .then <| .cond .t0 (fun c1 => ?_) (fun c1 => ?_)
  · rw [if_pos c1] at h
    refine .seq <| .reg rfl <| .opp (P.asg .k) rfl <| .opp (P.asg .k) rfl <| .nil <| .then <| .ret <| .inr <| .thr ?_
    cases h
    exact .lnil 5 1 <| .finw nilSl (.r2 rfl (.tmp .g1) (.tmp .g0)) trivial (Ls.of (.cons .k1 (.cons .k1 (.cons .k0 .nil)))) .nil
  · rw [if_neg (ne_true_of_eq_false c1)] at h
    refine .seq <| .reg rfl <| .opp (P.mov .g0) rfl <| .opp (P.nilc .t0) rfl <| .opp (P.fa .t0 fa_368_1 rfl) rfl <| .op (V.ld (v := N a0.e_) .t0 .k0 (.one isAgg26 rfl)) rfl <| .opp (P.bin .t0 .k .neq) rfl <| .opp (P.asg .t0) rfl <| .nil <| .then <| .cond .t0 (fun c2 => ?_) (fun c2 => ?_)
    · rw [if_pos c2] at h
      refine .seq <| .draw 6 (.on 0 .pu (.on 1 .pu (.on 2 .pu (.on 3 .ld (.on 4 .go (.on 5 .go .nl)))))) follows_mixed (.thn (.inb (.thn .body))) (by kernel_rfl) <| .dpu rfl (.n rfl) (P.mov .t0) rfl rfl <| .dpu rfl (.n rfl) (P.nilc .t0) rfl rfl <| .dpu rfl (.n rfl) (P.fa .t0 fa_368_1 rfl) rfl rfl <| .dld rfl (.n rfl) (V.ld (v := N a0.e_) .t0 .k0 (.one isAgg26 rfl)) (fun _ h => h) rfl rfl <| .dgo rfl (.n rfl) (OpV.g (OpP.toV (P.asg .k)) rfl) (.inr fun _ _ _ h => h) fun _ _ => .dgo rfl (.n rfl) (OpV.g (OpP.toV (P.asg .t1)) rfl) (.inr fun _ _ _ h => h) fun _ _ => .dnil <| .then <| .ret <| .inr ?_
      refine .thr ?_
      cases h
      exact .lnil 5 1 <| .finw nilSl (.r2 rfl (.tmp .g1) (.tmp .g0)) trivial (Ls.of (.cons .k1 (.cons .k1 (.cons .k0 .nil)))) .nil
    · rw [if_neg (ne_true_of_eq_false c2)] at h
      refine .skip <| .inn <| .then <| .seq <| .reg rfl <| .opp (P.mov .t0) rfl <| .opp (P.nilc .t0) rfl <| .opp (P.fa .t0 fa_368_0 rfl) rfl <| .op (V.ld (v := z00a) .t0 .k0 (.one isAgg70 rfl)) rfl <| .onel .k1 fun ho4 => .opg (G.bsl (cs := [z00a]) .t0 runUnderlying116 sizeOf70 zeroValue70 (cells1 ho4) rfl rfl rfl rfl) rfl fun u3 _ => .frz .k0 ?_
      obtain ⟨r5, hr6, h⟩ := bnd_eq h
      refine .opg (G.calll call92 (.cons .t0 .nil) (S_blob_Cat_n1 u3 z00a a0.b r5 hr6) .nil (.cons (List.mem_append_left _ Mm.m0) (.imp (List.mem_append_right _ Mm.m1) (fun _ => lst_rows) .nil)) (fun _ _ => rfl) rfl) rfl fun u7 _ => .opp (P.asg .t0) rfl <| .opp (P.asg .k) rfl <| .nil <| .then <| .ret ?_
      cases h
      exact .finw u7 (.r2 rfl (.tmp .g1) (.tmp .g0)) trivial (Ls.of (.cons .k1 (.cons .k1 (.cons .k0 .nil)))) .nil
attribute [irreducible] field_Out_Done
noncomputable def deal_Key (a0 : api_Inv) : Option (ByteArray) :=
  if (decide ((deal_Check a0) ≠ 0)) = true then (some ⟨#[]⟩) else (Option.bind (deal_Put field_New a0) fun r5 => Option.bind (field_Out_Done r5) fun r8 => Option.bind (hash_Text_n1 r8.1) fun r13 => some r13)
set_option maxRecDepth 20000 in
set_option maxHeartbeats 8000000 in
theorem S_deal_Key (a0 : api_Inv) (r : ByteArray) (h : deal_Key a0 = some r) :
    SpecF Tryz.prog 117 [Ag (api_Inv.cs a0)] [] [] (fun z : Unit => True) (fun z => .string r) (fun z M =>  M) (fun z M =>  M) := by
  refine .of func117 rfl ntmps117 rfl fun w0 D0 G0 => ?_
  unfold deal_Key at h
  refine .seq <| .reg rfl <| .opx (X.box (cs := (api_Inv.cs a0)) .t0 rfl) rfl fun b1 => .op0 (OpP.toV (P.asg .k)) rfl <| .nil <| .then <| .seq <| .seq <| .reg rfl <| .op (V.ld (v := Ag (api_Inv.cs a0)) .g0 .k0 (.agg isAgg79 sizeOf79 rfl rfl)) rfl <| .opg (G.call call127 (.cons .t0 .nil) (S_deal_Check a0 _ rfl) .nil .nil (fun _ _ => rfl) (fun _ _ => rfl) rfl) rfl fun _ _ => .opp (P.bin .t0 .k .neq) rfl ?_
  refine .nil <| .then <| .cond .t0 (fun c2 => ?_) (fun c2 => ?_)
  · rw [if_pos c2] at h
    refine .seq <| .reg rfl <| .opp (P.asg .k) rfl <| .nil <| .then <| .ret <| .thr ?_
    cases h
    exact .finw () (.r1 rfl (.tmp .g0)) trivial (Ls.of .nil) .nil
  · rw [if_neg (ne_true_of_eq_false c2)] at h
    refine .skip <| .then <| .seq <| .reg rfl <| .opg (G.call call181 .nil (S_field_New  _ rfl) .nil .nil (fun _ _ => rfl) (fun _ _ => rfl) rfl) rfl fun ⟨b3, u4⟩ _ => .opp (P.asg .t0) rfl <| .nil <| .then <| .seq <| .reg rfl <| .opp (P.mov .g0) rfl <| .op (V.ld (v := Ag (api_Inv.cs a0)) .t2 .k2 (.agg isAgg79 sizeOf79 rfl rfl)) rfl ?_
    obtain ⟨r5, hr6, h⟩ := bnd_eq h
    refine .opg (G.call call182 (.cons .t1 (.cons .t0 .nil)) (S_deal_Put b3 field_New u4 a0 r5 hr6) (.cons .k0 (.cons .k0 .nil)) .nil (fun _ _ => rfl) (fun _ _ => rfl) rfl) rfl fun u7 _ => .drop .k0 <| .nil <| .then <| .seq <| .reg rfl <| .opp (P.mov .t0) rfl ?_
    obtain ⟨r8, hr9, h⟩ := bnd_eq h
    refine .opg (G.call call183 (.cons .t0 .nil) (S_field_Out_Done b3 r5 u7 r8 hr9) (.cons .k0 (.cons .k0 .nil)) .nil (fun _ _ => rfl) (fun _ _ => rfl) rfl) rfl fun u10 _ => .opp (P.mov .t0) rfl <| .opp (P.ext (v := u10) .g0 rfl) rfl <| .opp (P.ext (v := N r8.2) .t1 rfl) rfl <| .opp (P.asg .t1) rfl <| .op0 (OpP.toV (P.asg .t1)) rfl <| .nil <| .then <| .seq <| .reg rfl <| .opp (P.mov .t0) rfl <| .onel .k2 fun ho12 => ?_
    refine .opg (G.bsl (cs := [u10]) .t0 runUnderlying116 sizeOf70 zeroValue70 (cells1 ho12) rfl rfl rfl rfl) rfl fun u11 _ => .frz .k0 <| .frz .k2 ?_
    obtain ⟨r13, hr14, h⟩ := bnd_eq h
    refine .opg (G.call call184 (.cons .t0 .nil) (S_hash_Text_n1 u11 u10 r8.1 r13 hr14) .nil (.cons Mm.m1 (.cons Mm.m0 .nil)) (fun _ _ => rfl) (fun _ _ => rfl) rfl) rfl fun _ _ => .opp (P.asg .t0) rfl <| .nil <| .then <| .ret ?_
    cases h
    exact .finw () (.r1 rfl (.tmp .g0)) trivial (Ls.of .nil) .nil
attribute [irreducible] deal_Key
noncomputable def relay_Relay_Look_bx_bx (a0 : Option relay_Relay) (a1 : Option chain_Chain) : Option ((List api_Send)) :=
  if a0.isNone = true then (some ([] : List api_Send)) else (Option.bind a0 fun (y4 : relay_Relay) => if (decide (0 < (y4.jobs.length : Int))) = true then (Option.bind (at_ y4.jobs 0) fun (x12 : api_Message) => Option.bind (deal_Key x12.Inv) fun r17 => none) else (some ([] : List api_Send)))
set_option maxRecDepth 20000 in
set_option maxHeartbeats 8000000 in
theorem S_relay_Relay_Look_bx_bx (v00 : Value) (a0 : Option relay_Relay) (v01 : Value) (a1 : Option chain_Chain) (r : (List api_Send)) (h : relay_Relay_Look_bx_bx a0 a1 = some r) :
    SpecF Tryz.prog 84 [v00, v01] [bx relay_Relay.bd relay_Relay.fp v00 a0, bx chain_Chain.bd chain_Chain.fp v01 a1] [] (fun z : Value => True) (fun z => z) (fun z M => bx relay_Relay.bd relay_Relay.fp v00 a0 :: bx chain_Chain.bd chain_Chain.fp v01 a1 :: lst 181 26 z (r.map api_Send.cs) ::  M) (fun z M =>  M) := by
  refine .of func84 rfl ntmps84 rfl fun w0 D0 G0 => ?_
  unfold relay_Relay_Look_bx_bx at h
  refine .seq <| .reg rfl <| .op0 (OpP.toV (P.asg .k)) rfl <| .nil <| .then <| .seq <| .seq <| .reg rfl <| .opp (P.mov .g0) rfl <| .fact .k0 (fun _ hh => bx_nil (P := Tryz.prog) (t := 53) (e := 124) (by kernel_rfl) hh) fun hq1 => .opp (P.bin .t0 .k hq1.1) rfl <| .nil ?_
  refine .then <| .cond .t0 (fun c2 => ?_) (fun c2 => ?_)
  · rw [if_pos c2] at h
    refine .seq <| .reg rfl <| .opp (P.asg .k) rfl <| .nil <| .then <| .ret <| .thr ?_
    cases h
    exact .lnil 181 26 <| .finw nilSl (.r1 rfl (.tmp .g0)) trivial (Ls.of (.cons .k1 (.cons .k1 (.cons .k0 .nil)))) .nil
  · rw [if_neg (ne_true_of_eq_false c2)] at h
    refine .skip <| .then <| .seq <| .reg rfl <| .opp (P.asg .k) rfl <| .nil <| .then <| .seq <| .seq <| .reg rfl <| .opp (P.mov .t1) rfl ?_
    obtain ⟨y4, hy5, h⟩ := bnd_eq h
    refine .bxo .k0 hy5 (fun _ _ _ => rfl) fun ⟨b6, u7⟩ hz3 => ?_
    replace hz3 : v00 = pt b6 0 := hz3
    subst hz3
    refine .opp (P.nilc .t0) rfl <| .opp (P.fa .t0 fa_124_0 rfl) rfl <| .op (V.ld (v := u7) .t0 .k0 (.one isAgg117 rfl)) rfl <| .op (V.lnl (n := y4.jobs.length) .g0 .k1 map_len runUnderlying117) rfl <| .opp (P.mov .k) rfl <| .nil <| .then <| .block <| .rounds 1 <| .rd <| .seq <| .reg rfl ?_
    refine .opp (P.bin .g0 .g1 .lss) rfl <| .nil <| .then <| .seq <| .cond .t0 (fun c8 => ?_) (fun c8 => ?_)
    · rw [if_pos c8] at h
      refine .skip <| .then <| .seq <| .block <| .seq <| .reg rfl ?_
      obtain ⟨x12, hx13, h⟩ := bnd_eq h
      obtain ⟨i14, hi15, hx13⟩ := at_eq hx13
      have hi15_ : (0 : Int).toNat = i14 := by rw [hi15]; rfl
      refine .ixql .k1 (map_get hx13) fun p9 q10 hq11 => .opp (P.ixi (i := i14) .g0 hi15 .g2 hq11 runUnderlying117 sizeOf176) rfl <| .op (V.ldxl0 (u := Ag (api_Message.cs x12)) .t0 hq11 .k1 (map_get hx13) (.agg isAgg176 sizeOf176 rfl rfl)) rfl <| .opx (X.alc (cs := (api_Message.cs ⟨0, ⟨0, 0, 0, 0, ⟨0, 0, 0, 0⟩, ⟨#[]⟩⟩, ⟨0, ⟨0, 0, 0, 0, ⟨0, 0, 0, 0⟩, ⟨#[]⟩⟩, ⟨0, 0, 0, 0⟩, 0, ⟨#[]⟩⟩, ⟨0, ⟨#[]⟩, 0, 0, 0, 0, ⟨#[]⟩⟩, ⟨⟨0, 0, 0, 0⟩, 0⟩, ⟨0, 0, 0, 0⟩, ⟨#[]⟩⟩)) zeroValue176 rfl) rfl fun b16 => .opg (G.str .t1 .g0 .k0 (.mk (cs' := (api_Message.cs x12)) sizeOf176 rfl rfl rfl rfl)) rfl fun _ _ => .nil <| .then <| .seq <| .draw 6 (.on 0 .pu (.on 1 .pu (.on 2 .ld (.on 4 .ld (.on 3 .go (.on 5 .go .nl)))))) follows_mixed (.thn (.inb (.thn (.thn (.inb (.thn .body)))))) (by kernel_rfl) <| .dpu rfl (.n rfl) (P.mov .g5) rfl rfl <| .dpu rfl (.n rfl) (P.fa .g1 fa_176_3 rfl) rfl rfl <| .dld rfl (.n rfl) (V.ld (v := Ag (api_Inv.cs x12.Inv)) .t0 .k0 (.agg isAgg79 sizeOf79 rfl rfl)) (fun _ h => h) rfl rfl ?_
      refine .dld rfl (.n rfl) (V.ld (v := Ag (api_Message.cs x12)) .g2 .k0 (.agg isAgg176 sizeOf176 rfl rfl)) (fun _ h => h) rfl rfl ?_
      obtain ⟨r17, hr18, h⟩ := bnd_eq h
      refine .dgo rfl (.n rfl) (G.call call117 (.cons .t1 .nil) (S_deal_Key x12.Inv r17 hr18) .nil .nil (fun _ _ => rfl) (fun _ _ => rfl) rfl) (.inr fun _ _ _ h => h) fun _ _ => ?_
      cases h
    · rw [if_neg (ne_true_of_eq_false c8)] at h
      refine .exit <| .thx <| .thx <| .inb <| .then <| .seq <| .reg rfl <| .opp (P.mov .t3) rfl <| .opp (P.asg .t0) rfl <| .nil <| .then <| .ret ?_
      cases h
      exact .bxc relay_Relay.bd relay_Relay.fp (b6, u7) y4 (z := (pt b6 0)) rfl (.cons .k0 (.cons .k0 .nil)) <| .conseq .k0 (q := bx relay_Relay.bd relay_Relay.fp (pt b6 0) a0) (fun _ h_ => by rw [hy5]; exact h_) <| .lnil 181 26 <| .finw nilSl (.r1 rfl (.tmp .g0)) trivial (Ls.of (.cons .k1 (.cons .k1 (.cons .k0 .nil)))) .nil
attribute [irreducible] relay_Relay_Look_bx_bx
end Go.Sl
