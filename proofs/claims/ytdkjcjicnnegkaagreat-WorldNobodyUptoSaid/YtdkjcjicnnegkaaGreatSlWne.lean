/- Walked code of the program, its pure functions and their contracts. -/
import Derived.Test.YtdkjcjicnnegkaaGreatSlWnd
set_option linter.unusedVariables false
set_option linter.unusedSimpArgs false
namespace Go.Sl
open Go.Proofs Go.Proofs.Tryz
structure api_Mail where
  To : Int
  Data : List UInt8
  deriving DecidableEq
def api_Mail.cs (x : api_Mail) (z0 : Value) : List Value := [N x.To, z0]
def api_Mail.g (x : api_Mail) (z : Value) : Asn := rows 1 z (x.Data.map (fun x => [B8 x]))
def api_Mail.z : api_Mail := ⟨0, []⟩
theorem fa_70_0 : FaV Tryz.prog 70 0 0 := .mk runUnderlying70 rfl sizeOf3 rfl rfl
theorem fa_70_1 : FaV Tryz.prog 70 1 1 := .mk runUnderlying70 rfl sizeOf3 rfl rfl
theorem fa_70_2 : FaV Tryz.prog 70 2 2 := .mk runUnderlying70 rfl sizeOf3 rfl rfl
theorem fa_70_3 : FaV Tryz.prog 70 3 3 := .mk runUnderlying70 rfl sizeOf3 rfl rfl
theorem fa_70_4 : FaV Tryz.prog 70 4 4 := .mk runUnderlying70 rfl sizeOf68 rfl rfl
theorem fa_83_5 : FaV Tryz.prog 83 5 11 := .mk runUnderlying83 rfl sizeOf46 rfl rfl
theorem fa_83_6 : FaV Tryz.prog 83 6 12 := .mk runUnderlying83 rfl sizeOf3 rfl rfl
theorem fa_83_7 : FaV Tryz.prog 83 7 13 := .mk runUnderlying83 rfl sizeOf75 rfl rfl
theorem fa_83_8 : FaV Tryz.prog 83 8 17 := .mk runUnderlying83 rfl sizeOf76 rfl rfl
theorem fa_83_9 : FaV Tryz.prog 83 9 21 := .mk runUnderlying83 rfl sizeOf77 rfl rfl
theorem pl_70 : ∀ w, ((#[{ name := "Kind", type := 3, offset := 0, embedded := false, tag := "", pkgPath := "", byteOffset := 0 }, { name := "A", type := 3, offset := 1, embedded := false, tag := "", pkgPath := "", byteOffset := 8 }, { name := "B", type := 3, offset := 2, embedded := false, tag := "", pkgPath := "", byteOffset := 16 }, { name := "C", type := 3, offset := 3, embedded := false, tag := "", pkgPath := "", byteOffset := 24 }, { name := "Data", type := 68, offset := 4, embedded := false, tag := "", pkgPath := "", byteOffset := 32 }] : Array Field).mapM fun f => do pure (f.offset, ← sizeOf f.type) : Sem (Array (Nat × Nat))).run Tryz.prog w = .ok #[(0, 1), (1, 1), (2, 1), (3, 1), (4, 1)] w := fun w => by simp [sizeOf3, sizeOf68]
noncomputable def world_World_is_bx (a0 : Option world_World) : Option (Bool) :=
  Option.bind (if a0.isSome = true then (Option.bind a0 fun (y7 : world_World) => some y7.since.isSome) else (some false)) fun (y1 : Bool) => some y1
set_option maxRecDepth 20000 in
set_option maxHeartbeats 8000000 in
theorem S_world_World_is_bx (v00 : Value) (a0 : Option world_World) (r : Bool) (h : world_World_is_bx a0 = some r) :
    SpecF Tryz.prog 31 [v00] [bx world_World.bd world_World.fp v00 a0] [] (fun z : Unit => True) (fun z => Bo r) (fun z M => bx world_World.bd world_World.fp v00 a0 ::  M) (fun z M =>  M) := by
  refine .of func31 rfl ntmps31 rfl fun w0 D0 G0 => ?_
  unfold world_World_is_bx at h
  refine .seq <| .reg rfl <| .op0 (OpP.toV (P.asg .k)) rfl <| .nil <| .then ?_
  obtain ⟨y1, hj3, h⟩ := bnd_eq h
  refine .cutx (γ := Unit) (E1 := fun z2 => [(2, Bo y1)]) (L1 := fun z2 => [bx world_World.bd world_World.fp v00 a0]) (R1 := fun z2 => []) ?_ (fun z2 => ?_)
  · clear h
    refine .reg rfl <| .opp (P.mov .g0) rfl <| .fact .k0 (fun _ hh => bx_nil (P := Tryz.prog) (t := 26) (e := 83) (by kernel_rfl) hh) fun hq4 => .opp (P.bin .t0 .k hq4.2) rfl <| .opp (P.mov .t0) rfl <| .split .k0 (fun c5 => ?_) (fun c5 => ?_)
    · rw [if_pos c5] at hj3
      refine .gyes rfl .g0 <| .opp (P.mov .t1) rfl <| .gyes rfl .g1 ?_
      obtain ⟨y7, hy8, hj3⟩ := bnd_eq hj3
      refine .bxo .k0 hy8 (fun _ _ _ => rfl) fun ⟨b9, u10, u11, u12, u13, u14, u15, u16, u17, u18, u19, u20⟩ hz6 => ?_
      replace hz6 : v00 = pt b9 0 := hz6
      subst hz6
      refine .opp (P.nilc .t0) rfl <| .gyes rfl .g1 <| .opp (P.fa .t0 fa_83_9 rfl) rfl <| .gyes rfl .g1 <| .op (V.ld (v := u17) .t0 .k0 (.one isAgg77 rfl)) rfl <| .gyes rfl .g1 <| .fact .k8 (fun _ hh => mb_nil (P := Tryz.prog) (t := 77) (k := 154) (e := 3) (by kernel_rfl) hh) fun hq21 => .opp (P.bin .t0 .k hq21.2) rfl <| .opp (P.pickT .t1 .t0) rfl <| .opp (P.asg .t0) rfl <| .nil ?_
      cases hj3
      exact .bxc world_World.bd world_World.fp (b9, u10, u11, u12, u13, u14, u15, u16, u17, u18, u19, u20) y7 (z := (pt b9 0)) rfl (.cons .k0 (.cons .k0 (.cons .k0 (.cons .k0 (.cons .k0 (.cons .k0 (.cons .k0 (.cons .k0 (.cons .k0 (.cons .k0 (.cons .k0 (.cons .k0 .nil)))))))))))) <| .conseq .k0 (q := bx world_World.bd world_World.fp (pt b9 0) a0) (fun _ h_ => by rw [hy8]; exact h_) <| .stj () (.cons Mm.m0 .nil) (.of (.cons .k0 .nil)) .nil
    · rw [if_neg (ne_true_of_eq_false c5)] at hj3
      refine .gno rfl .g0 rfl rfl <| .gno rfl .g0 rfl rfl <| .gno rfl .g0 rfl rfl <| .gno rfl .g0 rfl rfl <| .gno rfl .g0 rfl rfl <| .opp (P.pickF .t0 .k) rfl <| .opp (P.asg .t0) rfl <| .nil ?_
      cases hj3
      exact .stj () (.cons Mm.m0 .nil) (.of (.cons .k0 .nil)) .nil
  · clear hj3
    refine .ret ?_
    cases h
    exact .finw () (.r1 rfl (.tmp .g0)) trivial (Ls.of (.cons .k0 .nil)) .nil
attribute [irreducible] world_World_is_bx
noncomputable def escrow_Rise (a0 : escrow_State) (a1 : Int) : Option (escrow_State) :=
  Option.bind (slices_Clone_escrow_Lock a0.Locks) fun r3 => some ((⟨a0.Side, IntKind.i64.wrap (a0.Time + (if (if 0 > (IntKind.i64.wrap (1099511627776 - a0.Time)) then 0 else IntKind.i64.wrap (1099511627776 - a0.Time)) < (if 0 > a1 then 0 else a1) then if 0 > (IntKind.i64.wrap (1099511627776 - a0.Time)) then 0 else IntKind.i64.wrap (1099511627776 - a0.Time) else if 0 > a1 then 0 else a1)), a0.Purse, a0.Vault, a0.Nonces, a0.Held, a0.Burnt, r3⟩ : escrow_State))
set_option maxRecDepth 20000 in
set_option maxHeartbeats 8000000 in
theorem S_escrow_Rise (a0 : escrow_State) (z00a : Value) (a1 : Int) (r : escrow_State) (h : escrow_Rise a0 a1 = some r) :
    SpecF Tryz.prog 46 [Ag (escrow_State.cs a0 z00a), N a1] [] [rows 3 z00a (a0.Locks.map escrow_Lock.cs)] (fun z : Value => True) (fun z => Ag (escrow_State.cs r z)) (fun z M => lst 152 3 z (r.Locks.map escrow_Lock.cs) ::  M) (fun z M =>  M) := by
  refine .of func46 rfl ntmps46 rfl fun w0 D0 G0 => ?_
  unfold escrow_Rise at h
  refine .seq <| .reg rfl <| .opx (X.box (cs := (escrow_State.cs a0 z00a)) .t0 rfl) rfl fun b1 => .opx (X.alc (cs := (escrow_State.cs ⟨0, 0, ⟨⟨⟨0, 0, 0, 0⟩, ⟨0, 0, 0, 0⟩⟩, ⟨⟨0, 0, 0, 0⟩, ⟨0, 0, 0, 0⟩⟩, ⟨⟨0, 0, 0, 0⟩, ⟨0, 0, 0, 0⟩⟩, ⟨⟨0, 0, 0, 0⟩, ⟨0, 0, 0, 0⟩⟩, ⟨⟨0, 0, 0, 0⟩, ⟨0, 0, 0, 0⟩⟩, ⟨⟨0, 0, 0, 0⟩, ⟨0, 0, 0, 0⟩⟩, ⟨⟨0, 0, 0, 0⟩, ⟨0, 0, 0, 0⟩⟩, ⟨⟨0, 0, 0, 0⟩, ⟨0, 0, 0, 0⟩⟩⟩, ⟨⟨⟨0, 0, 0, 0⟩, ⟨0, 0, 0, 0⟩⟩, ⟨⟨0, 0, 0, 0⟩, ⟨0, 0, 0, 0⟩⟩, ⟨⟨0, 0, 0, 0⟩, ⟨0, 0, 0, 0⟩⟩, ⟨⟨0, 0, 0, 0⟩, ⟨0, 0, 0, 0⟩⟩, ⟨⟨0, 0, 0, 0⟩, ⟨0, 0, 0, 0⟩⟩, ⟨⟨0, 0, 0, 0⟩, ⟨0, 0, 0, 0⟩⟩, ⟨⟨0, 0, 0, 0⟩, ⟨0, 0, 0, 0⟩⟩, ⟨⟨0, 0, 0, 0⟩, ⟨0, 0, 0, 0⟩⟩⟩, ⟨0, 0, 0, 0, 0, 0, 0, 0⟩, ⟨⟨0, 0, 0, 0⟩, ⟨0, 0, 0, 0⟩⟩, ⟨0, 0, 0, 0⟩, []⟩ nilSl)) zeroValue64 rfl) rfl fun b2 => .nil <| .then <| .seq <| .reg rfl <| .opp (P.fa .g1 fa_64_1 rfl) rfl <| .op (V.ld (v := N a0.Time) .t0 .k1 (.one isAgg3 rfl)) rfl <| .opp (P.mov .t3) rfl <| .opp (P.max2 .t0 .k) rfl ?_
  refine .opp (P.fa .g3 fa_64_1 rfl) rfl <| .op (V.ld (v := N a0.Time) .t0 .k1 (.one isAgg3 rfl)) rfl <| .opp (P.bin .k .t0 .sub) rfl <| .opp (P.max2 .t0 .k) rfl <| .opp (P.min2 .t1 .t0) rfl <| .opp (P.bin .t1 .t0 .add) rfl <| .opp (P.fa .g2 fa_64_1 rfl) rfl <| .opg (G.str .t1 .t0 .k1 (.mk (cs' := (escrow_State.cs ⟨a0.Side, IntKind.i64.wrap (a0.Time + (if (if 0 > (IntKind.i64.wrap (1099511627776 - a0.Time)) then 0 else IntKind.i64.wrap (1099511627776 - a0.Time)) < (if 0 > a1 then 0 else a1) then if 0 > (IntKind.i64.wrap (1099511627776 - a0.Time)) then 0 else IntKind.i64.wrap (1099511627776 - a0.Time) else if 0 > a1 then 0 else a1)), a0.Purse, a0.Vault, a0.Nonces, a0.Held, a0.Burnt, a0.Locks⟩ z00a)) sizeOf3 rfl rfl rfl rfl)) rfl fun _ _ => .nil <| .then <| .seq <| .reg rfl ?_
  refine .opp (P.fa .g1 fa_64_7 rfl) rfl <| .op (V.ld (v := z00a) .t0 .k0 (.one isAgg62 rfl)) rfl ?_
  obtain ⟨r3, hr4, h⟩ := bnd_eq h
  refine .opg (G.call call76 (.cons .t0 .nil) (S_slices_Clone_escrow_Lock z00a a0.Locks r3 hr4) .nil (.cons Mm.m0 .nil) (fun _ _ => rfl) (fun _ _ => rfl) rfl) rfl fun u5 _ => .opp (P.fa .g2 fa_64_7 rfl) rfl <| .onel .k0 fun ho6 => .opg (G.str .t1 .t0 .k1 (.mk1 (cs' := (escrow_State.cs ⟨a0.Side, IntKind.i64.wrap (a0.Time + (if (if 0 > (IntKind.i64.wrap (1099511627776 - a0.Time)) then 0 else IntKind.i64.wrap (1099511627776 - a0.Time)) < (if 0 > a1 then 0 else a1) then if 0 > (IntKind.i64.wrap (1099511627776 - a0.Time)) then 0 else IntKind.i64.wrap (1099511627776 - a0.Time) else if 0 > a1 then 0 else a1)), a0.Purse, a0.Vault, a0.Nonces, a0.Held, a0.Burnt, []⟩ u5)) sizeOf62 rfl ho6 rfl rfl)) rfl fun _ _ => .nil <| .then <| .seq <| .reg rfl <| .op (V.ld (v := Ag (escrow_State.cs ⟨a0.Side, IntKind.i64.wrap (a0.Time + (if (if 0 > (IntKind.i64.wrap (1099511627776 - a0.Time)) then 0 else IntKind.i64.wrap (1099511627776 - a0.Time)) < (if 0 > a1 then 0 else a1) then if 0 > (IntKind.i64.wrap (1099511627776 - a0.Time)) then 0 else IntKind.i64.wrap (1099511627776 - a0.Time) else if 0 > a1 then 0 else a1)), a0.Purse, a0.Vault, a0.Nonces, a0.Held, a0.Burnt, []⟩ u5)) .t1 .k0 (.agg isAgg64 sizeOf64 rfl rfl)) rfl <| .onel .k1 fun ho7 => .opg (G.str .t0 .g0 .k2 (.mk (cs' := (escrow_State.cs ⟨a0.Side, IntKind.i64.wrap (a0.Time + (if (if 0 > (IntKind.i64.wrap (1099511627776 - a0.Time)) then 0 else IntKind.i64.wrap (1099511627776 - a0.Time)) < (if 0 > a1 then 0 else a1) then if 0 > (IntKind.i64.wrap (1099511627776 - a0.Time)) then 0 else IntKind.i64.wrap (1099511627776 - a0.Time) else if 0 > a1 then 0 else a1)), a0.Purse, a0.Vault, a0.Nonces, a0.Held, a0.Burnt, []⟩ u5)) sizeOf64 rfl (onez_64 _ ho7) rfl rfl)) rfl fun _ _ => .nil ?_
  refine .then <| .ret ?_
  cases h
  exact .finw u5 (.r1 rfl (.cell .g0 .k0 (.agg isAgg64 sizeOf64 rfl rfl))) trivial (Ls.of (.cons .k2 .nil)) .nil
attribute [irreducible] escrow_Rise
noncomputable def chain_Chain_Rise_bx (a0 : Option chain_Chain) (a1 : Int) : Option ((Option chain_Chain)) :=
  Option.bind (chain_Chain_is_bx a0) fun r1 => if r1 = true then (Option.bind a0 fun (y5 : chain_Chain) => Option.bind (escrow_Rise y5.s a1) fun r11 => some ((some (⟨r11, y5.pool, y5.events, y5.made⟩ : chain_Chain)))) else (some a0)
set_option maxRecDepth 20000 in
set_option maxHeartbeats 8000000 in
theorem S_chain_Chain_Rise_bx (v00 : Value) (a0 : Option chain_Chain) (a1 : Int) (r : (Option chain_Chain)) (h : chain_Chain_Rise_bx a0 a1 = some r) :
    SpecF Tryz.prog 77 [v00, N a1] [bx chain_Chain.bd chain_Chain.fp v00 a0] [] (fun z : Unit => True) (fun z => Tu []) (fun z M => bx chain_Chain.bd chain_Chain.fp v00 r ::  M) (fun z M =>  M) := by
  refine .of func77 rfl ntmps77 rfl fun w0 D0 G0 => ?_
  unfold chain_Chain_Rise_bx at h
  refine .seq <| .reg rfl <| .opp (P.mov .g0) rfl ?_
  obtain ⟨r1, hr2, h⟩ := bnd_eq h
  refine .opg (G.call call33 (.cons .t0 .nil) (S_chain_Chain_is_bx v00 a0 r1 hr2) (.cons .k0 .nil) .nil (fun _ _ => rfl) (fun _ _ => rfl) rfl) rfl fun _ _ => .nil <| .then <| .cond .t0 (fun c3 => ?_) (fun c3 => ?_)
  · rw [if_pos c3] at h
    refine .reg rfl <| .opp (P.mov .g0) rfl <| .opp (P.mov .t1) rfl ?_
    obtain ⟨y5, hy6, h⟩ := bnd_eq h
    refine .bxo .k0 hy6 (fun _ _ _ => rfl) fun ⟨b7, u8, u9, u10⟩ hz4 => ?_
    replace hz4 : v00 = pt b7 0 := hz4
    subst hz4
    refine .opp (P.nilc .t0) rfl <| .opp (P.fa .t0 fa_99_0 rfl) rfl <| .op (V.ld (v := Ag (escrow_State.cs y5.s u8)) .t0 .k0 (.agg isAgg64 sizeOf64 rfl rfl)) rfl <| .opp (P.mov .t2) rfl ?_
    obtain ⟨r11, hr12, h⟩ := bnd_eq h
    refine .opg (G.calll call46 (.cons .t1 (.cons .t0 .nil)) (S_escrow_Rise y5.s u8 a1 r11 hr12) .nil (.imp (List.mem_append_right _ Mm.m1) (fun _ => lst_rows) .nil) (fun _ _ => rfl) rfl) rfl fun u13 _ => .opp (P.nilc .t1) rfl <| .opp (P.fa .t0 fa_99_0 rfl) rfl <| .onel .k0 fun ho14 => .opg (G.str .t1 .t0 .k1 (.mk (cs' := (chain_Chain.cs ⟨r11, y5.pool, y5.events, y5.made⟩ u13 u9 u10)) sizeOf64 rfl (onez_64 _ ho14) rfl rfl)) rfl fun _ _ => .nil ?_
    cases h
    exact .bxc chain_Chain.bd chain_Chain.fp (b7, u13, u9, u10) (⟨r11, y5.pool, y5.events, y5.made⟩ : chain_Chain) (z := (pt b7 0)) rfl (.cons .k0 (.cons .k0 (.cons .k1 (.cons .k1 .nil)))) <| .finwn () (.r0 rfl) trivial (Ls.of (.cons .k0 .nil)) .nil
  · rw [if_neg (ne_true_of_eq_false c3)] at h
    refine .skip ?_
    cases h
    exact .finwn () (.r0 rfl) trivial (Ls.of (.cons .k0 .nil)) .nil
attribute [irreducible] chain_Chain_Rise_bx
noncomputable def world_World_tick_bx (a0 : Option world_World) : Option ((Option world_World)) :=
  Option.bind a0 fun (y2 : world_World) => Option.bind (chain_Chain_Rise_bx y2.sides.a0 1) fun r16 => Option.bind (chain_Chain_Rise_bx y2.sides.a1 1) fun r18 => Option.bind (Option.bind (Option.bind (world_World_corrupt (⟨y2.setup, ⟨r16, r18⟩, y2.clients, y2.routers, y2.relay, y2.mail, IntKind.i64.wrap (y2.now + 1), y2.seen, y2.late, y2.since, y2.told, y2.keys, y2.digests, y2.asked, y2.forged, y2.clash⟩ : world_World) 0) fun r26 => if (!r26) = true then (some (decide ((IntKind.i64.wrap ((IntKind.i64.wrap (y2.now + 1)) - y2.seen.a0)) > y2.setup.Delay))) else (some false)) fun (y23 : Bool) => if y23 = true then (some ⟨true, y2.late.a1, y2.late.a2, y2.late.a3⟩) else (some y2.late)) fun (y20 : A4_bool) => Option.bind (Option.bind (Option.bind (world_World_corrupt (⟨y2.setup, ⟨r16, r18⟩, y2.clients, y2.routers, y2.relay, y2.mail, IntKind.i64.wrap (y2.now + 1), y2.seen, y20, y2.since, y2.told, y2.keys, y2.digests, y2.asked, y2.forged, y2.clash⟩ : world_World) 1) fun r36 => if (!r36) = true then (some (decide ((IntKind.i64.wrap ((IntKind.i64.wrap (y2.now + 1)) - y2.seen.a1)) > y2.setup.Delay))) else (some false)) fun (y33 : Bool) => if y33 = true then (some ⟨y20.a0, true, y20.a2, y20.a3⟩) else (some y20)) fun (y30 : A4_bool) => Option.bind (Option.bind (Option.bind (world_World_corrupt (⟨y2.setup, ⟨r16, r18⟩, y2.clients, y2.routers, y2.relay, y2.mail, IntKind.i64.wrap (y2.now + 1), y2.seen, y30, y2.since, y2.told, y2.keys, y2.digests, y2.asked, y2.forged, y2.clash⟩ : world_World) 2) fun r46 => if (!r46) = true then (some (decide ((IntKind.i64.wrap ((IntKind.i64.wrap (y2.now + 1)) - y2.seen.a2)) > y2.setup.Delay))) else (some false)) fun (y43 : Bool) => if y43 = true then (some ⟨y30.a0, y30.a1, true, y30.a3⟩) else (some y30)) fun (y40 : A4_bool) => Option.bind (Option.bind (Option.bind (world_World_corrupt (⟨y2.setup, ⟨r16, r18⟩, y2.clients, y2.routers, y2.relay, y2.mail, IntKind.i64.wrap (y2.now + 1), y2.seen, y40, y2.since, y2.told, y2.keys, y2.digests, y2.asked, y2.forged, y2.clash⟩ : world_World) 3) fun r56 => if (!r56) = true then (some (decide ((IntKind.i64.wrap ((IntKind.i64.wrap (y2.now + 1)) - y2.seen.a3)) > y2.setup.Delay))) else (some false)) fun (y53 : Bool) => if y53 = true then (some ⟨y40.a0, y40.a1, y40.a2, true⟩) else (some y40)) fun (y50 : A4_bool) => Option.bind y2.since fun (y61 : List (world_place × Int)) => grd (y61.isEmpty = true) <| some ((some (⟨y2.setup, ⟨r16, r18⟩, y2.clients, y2.routers, y2.relay, y2.mail, IntKind.i64.wrap (y2.now + 1), y2.seen, y50, (some ([])), y2.told, y2.keys, y2.digests, y2.asked, y2.forged, y2.clash⟩ : world_World)))
set_option maxRecDepth 20000 in
set_option maxHeartbeats 8000000 in
theorem S_world_World_tick_bx (v00 : Value) (a0 : Option world_World) (r : (Option world_World)) (h : world_World_tick_bx a0 = some r) :
    SpecF Tryz.prog 48 [v00] [bx world_World.bd world_World.fp v00 a0] [] (fun z : Unit => True) (fun z => Tu []) (fun z M => bx world_World.bd world_World.fp v00 r ::  M) (fun z M =>  M) := by
  refine .of func48 rfl ntmps48 rfl fun w0 D0 G0 => ?_
  unfold world_World_tick_bx at h
  refine .seq <| .reg rfl <| .opp (P.mov .g0) rfl ?_
  obtain ⟨y2, hy3, h⟩ := bnd_eq h
  refine .bxo .k0 hy3 (fun _ _ _ => rfl) fun ⟨b4, u5, u6, u7, u8, u9, u10, u11, u12, u13, u14, u15⟩ hz1 => ?_
  replace hz1 : v00 = pt b4 0 := hz1
  subst hz1
  refine .opp (P.nilc .g0) rfl <| .opp (P.fa .t0 fa_83_6 rfl) rfl <| .op (V.ld (v := N y2.now) .t0 .k0 (.one isAgg3 rfl)) rfl <| .opp (P.bin .t0 .k .add) rfl <| .opp (P.nilc .t1) rfl <| .opp (P.fa .t0 fa_83_6 rfl) rfl <| .opg (G.str .t1 .t0 .k0 (.mk (cs' := (world_World.cs ⟨y2.setup, y2.sides, y2.clients, y2.routers, y2.relay, y2.mail, IntKind.i64.wrap (y2.now + 1), y2.seen, y2.late, y2.since, y2.told, y2.keys, y2.digests, y2.asked, y2.forged, y2.clash⟩ u5 u6 u7 u8 u9 u10 u11 u12 u13 u14 u15)) sizeOf3 rfl rfl rfl rfl)) rfl fun _ _ => .nil <| .then <| .seq <| .seq <| .reg rfl ?_
  refine .opp (P.mov .g0) rfl <| .opp (P.nilc .t0) rfl <| .opp (P.fa .t0 fa_83_1 rfl) rfl <| .op (V.ld (v := Ag (A2_chain_Chain.cs y2.sides u5 u6)) .t0 .k0 (.agg isAgg71 sizeOf71 rfl rfl)) rfl <| .opp (P.mov .k) rfl <| .nil <| .then <| .block <| .rounds 3 <| .rd <| .seq <| .reg rfl ?_
  refine .opp (P.bin (v := Bo true) .g0 .k (BinV.lss.boolc (by decide))) rfl <| .nil <| .then <| .seq <| .condT .t0 <| .skip <| .then <| .seq <| .block <| .seq <| .reg rfl <| .opp (P.idx (i := 0) (v := u5) .g1 .g0 rfl runUnderlying71 sizeOf30 (by decide) (.one isAgg30 rfl)) rfl ?_
  refine .opp (P.asg .t0) rfl <| .nil <| .then <| .reg rfl <| .opp (P.mov .t0) rfl ?_
  obtain ⟨r16, hr17, h⟩ := bnd_eq h
  refine .opg (G.call call77 (.cons .t0 (.cons .k .nil)) (S_chain_Chain_Rise_bx u5 y2.sides.a0 1 r16 hr17) (.cons .k1 .nil) .nil (fun _ _ => rfl) (fun _ _ => rfl) rfl) rfl fun _ _ => .drop .k0 <| .nil <| .inn <| .then <| .reg rfl <| .opp (P.bin (v := N 1) .g0 .k (.addc (by decide))) rfl <| .drop .k1 <| .opp (P.mov .t0) rfl <| .nil <| .then <| .rd ?_
  refine .seq <| .reg rfl <| .opp (P.bin (v := Bo true) .g0 .k (BinV.lss.boolc (by decide))) rfl <| .nil <| .then <| .seq <| .condT .t0 <| .skip <| .then <| .seq <| .block <| .seq ?_
  refine .reg rfl <| .opp (P.idx (i := 1) (v := u6) .g1 .g0 rfl runUnderlying71 sizeOf30 (by decide) (.one isAgg30 rfl)) rfl <| .opp (P.asg .t0) rfl <| .nil <| .then <| .reg rfl <| .opp (P.mov .t0) rfl ?_
  obtain ⟨r18, hr19, h⟩ := bnd_eq h
  refine .opg (G.call call77 (.cons .t0 (.cons .k .nil)) (S_chain_Chain_Rise_bx u6 y2.sides.a1 1 r18 hr19) (.cons .k2 .nil) .nil (fun _ _ => rfl) (fun _ _ => rfl) rfl) rfl fun _ _ => .drop .k0 <| .nil <| .inn <| .then <| .reg rfl <| .opp (P.bin (v := N 2) .g0 .k (.addc (by decide))) rfl <| .drop .k1 <| .opp (P.mov .t0) rfl <| .nil <| .then <| .rd ?_
  refine .seq <| .reg rfl <| .opp (P.bin (v := Bo false) .g0 .k (BinV.lss.boolc (by decide))) rfl <| .nil <| .then <| .seq <| .condF .t0 <| .exit <| .thx <| .thx <| .inb <| .then ?_
  refine .seq <| .seq <| .reg rfl <| .opp (P.mov .k) rfl <| .nil <| .then <| .block <| .rounds 5 <| .rd <| .seq <| .reg rfl <| .opp (P.bin (v := Bo true) .g0 .k (BinV.lss.boolc (by decide))) rfl ?_
  refine .nil <| .then <| .seq <| .condT .t0 <| .skip <| .then ?_
  obtain ⟨y20, hj22, h⟩ := bnd_eq h
  refine .cutx (γ := Unit) (E1 := fun z21 => [(24, N 0), (0, pt b4 0)]) (L1 := fun z21 => [blk b4 83 (world_World.cs ⟨y2.setup, ⟨r16, r18⟩, y2.clients, y2.routers, y2.relay, y2.mail, IntKind.i64.wrap (y2.now + 1), y2.seen, y20, y2.since, y2.told, y2.keys, y2.digests, y2.asked, y2.forged, y2.clash⟩ u5 u6 u7 u8 u9 u10 u11 u12 u13 u14 u15), bx chain_Chain.bd chain_Chain.fp u5 r16, bx chain_Chain.bd chain_Chain.fp u6 r18, bx client_Client.bd client_Client.fp u7 y2.clients.a0, bx client_Client.bd client_Client.fp u8 y2.clients.a1, bx router_Router.bd router_Router.fp u9 y2.routers.a0, bx router_Router.bd router_Router.fp u10 y2.routers.a1, bx relay_Relay.bd relay_Relay.fp u11 y2.relay, mb (fun (x : world_place) => Ag x.cs) (fun (x : Int) => N x) u12 y2.since, mb (fun (x : world_word) => Ag x.cs) (fun (x : Bool) => Bo x) u13 y2.told, mb (fun (x : ByteArray) => Value.string x) (fun (x : api_Inv) => Ag x.cs) u14 y2.keys, mb (fun (x : ByteArray) => Value.string x) (fun (x : world_data) => Ag x.cs) u15 y2.digests]) (R1 := fun z21 => []) ?_ (fun z21 => ?_)
  · clear h
    refine .block <| .seq <| .reg rfl <| .opp (P.mov .g0) rfl <| .opp (P.asg .t0) rfl <| .nil <| .then ?_
    obtain ⟨y23, hj25, hj22⟩ := bnd_eq hj22
    refine .cutx (γ := Unit) (E1 := fun z24 => [(49, Bo y23), (4, N 0), (24, N 0), (0, pt b4 0)]) (L1 := fun z24 => [blk b4 83 (world_World.cs ⟨y2.setup, ⟨r16, r18⟩, y2.clients, y2.routers, y2.relay, y2.mail, IntKind.i64.wrap (y2.now + 1), y2.seen, y2.late, y2.since, y2.told, y2.keys, y2.digests, y2.asked, y2.forged, y2.clash⟩ u5 u6 u7 u8 u9 u10 u11 u12 u13 u14 u15), bx chain_Chain.bd chain_Chain.fp u5 r16, bx chain_Chain.bd chain_Chain.fp u6 r18, bx client_Client.bd client_Client.fp u7 y2.clients.a0, bx client_Client.bd client_Client.fp u8 y2.clients.a1, bx router_Router.bd router_Router.fp u9 y2.routers.a0, bx router_Router.bd router_Router.fp u10 y2.routers.a1, bx relay_Relay.bd relay_Relay.fp u11 y2.relay, mb (fun (x : world_place) => Ag x.cs) (fun (x : Int) => N x) u12 y2.since, mb (fun (x : world_word) => Ag x.cs) (fun (x : Bool) => Bo x) u13 y2.told, mb (fun (x : ByteArray) => Value.string x) (fun (x : api_Inv) => Ag x.cs) u14 y2.keys, mb (fun (x : ByteArray) => Value.string x) (fun (x : world_data) => Ag x.cs) u15 y2.digests]) (R1 := fun z24 => []) ?_ (fun z24 => ?_)
    · clear hj22
      refine .draw 23 (.on 0 .pu (.on 1 .pu (.on 2 .go (.on 3 .pu (.on 4 .pu (.on 5 .pu (.on 6 .pu (.on 7 .pu (.on 9 .pu (.on 10 .pu (.on 11 .pu (.on 12 .pu (.on 13 .pu (.on 16 .pu (.on 17 .pu (.on 18 .pu (.on 19 .pu (.on 8 .ld (.on 14 .ld (.on 15 .pu (.on 20 .ld (.on 21 .pu (.on 22 .pu .nl))))))))))))))))))))))) follows_mixed (.thn (.inb (.thn (.thn (.inb (.thn .body)))))) (by kernel_rfl) <| .dpu rfl (.n rfl) (P.mov .g4) rfl rfl <| .dpu rfl (.n rfl) (P.mov .g1) rfl rfl ?_
      obtain ⟨r26, hr27, hj25⟩ := bnd_eq hj25
      refine .dgo rfl (.n rfl) (G.call call39 (.cons .t1 (.cons .t0 .nil)) (S_world_World_corrupt b4 (⟨y2.setup, ⟨r16, r18⟩, y2.clients, y2.routers, y2.relay, y2.mail, IntKind.i64.wrap (y2.now + 1), y2.seen, y2.late, y2.since, y2.told, y2.keys, y2.digests, y2.asked, y2.forged, y2.clash⟩ : world_World) u5 u6 u7 u8 u9 u10 u11 u12 u13 u14 u15 0 r26 hr27) (.cons .k2 (.cons .k1 (.cons .k0 (.cons .k0 (.cons .k0 (.cons .k0 (.cons .k0 (.cons .k0 (.cons .k0 (.cons .k0 (.cons .k0 (.cons .k0 .nil)))))))))))) .nil (fun _ _ => rfl) (fun _ _ => rfl) rfl) (.inr fun _ _ _ h => (h.imp (Ls.of (.cons .k2 (.cons .k1 (.cons .k0 (.cons .k0 (.cons .k0 (.cons .k0 (.cons .k0 (.cons .k0 (.cons .k0 (.cons .k0 (.cons .k0 (.cons .k0 .nil)))))))))))))).ro Rs.nil) fun _ _ => .dpu rfl (.n rfl) (P.not .t0) rfl rfl <| .dpu rfl (.n rfl) (P.mov .t0) rfl rfl <| .split .k0 (fun c28 => ?_) (fun c28 => ?_)
      · rw [if_pos c28] at hj25
        refine .dpu rfl (.g rfl rfl .g0 rfl) (P.mov .g5) rfl rfl <| .dpu rfl (.g rfl rfl .g1 rfl) (P.nilc .t0) rfl rfl <| .dpu rfl (.g rfl rfl .g1 rfl) (P.fa .t0 fa_83_6 rfl) rfl rfl <| .dpu rfl (.g rfl rfl .g1 rfl) (P.mov .g6) rfl rfl <| .dpu rfl (.g rfl rfl .g2 rfl) (P.mov .g3) rfl rfl <| .dpu rfl (.g rfl rfl .g3 rfl) (P.nilc .t1) rfl rfl <| .dpu rfl (.g rfl rfl .g3 rfl) (P.fa .t0 fa_83_7 rfl) rfl rfl <| .dpu rfl (.g rfl rfl .g3 rfl) (P.iac (i := 0) .t1 rfl .t0 runUnderlying75 sizeOf3 rfl rfl) rfl rfl <| .dpu rfl (.g rfl rfl .g2 rfl) (P.mov .g7) rfl rfl <| .dpu rfl (.g rfl rfl .g3 rfl) (P.nilc .t0) rfl rfl <| .dpu rfl (.g rfl rfl .g3 rfl) (P.fa .t0 fa_83_0 rfl) rfl rfl <| .dpu rfl (.g rfl rfl .g3 rfl) (P.fa .t0 fa_23_0 rfl) rfl rfl ?_
        refine .dld rfl (.g rfl rfl .g3 rfl) (V.ld (v := N (IntKind.i64.wrap (y2.now + 1))) .t2 .k2 (.one isAgg3 rfl)) (fun _ h => (h.imp (Ls.of (.cons .k2 (.cons .k1 (.cons .k0 (.cons .k0 (.cons .k0 (.cons .k0 (.cons .k0 (.cons .k0 (.cons .k0 (.cons .k0 (.cons .k0 (.cons .k0 .nil)))))))))))))).ro Rs.nil) rfl rfl <| .dld rfl (.g rfl rfl .g3 rfl) (V.ld (v := N y2.seen.a0) .t2 .k2 (.one isAgg3 rfl)) (fun _ h => (h.imp (Ls.of (.cons .k2 (.cons .k1 (.cons .k0 (.cons .k0 (.cons .k0 (.cons .k0 (.cons .k0 (.cons .k0 (.cons .k0 (.cons .k0 (.cons .k0 (.cons .k0 .nil)))))))))))))).ro Rs.nil) rfl rfl <| .dpu rfl (.g rfl rfl .g3 rfl) (P.bin .t1 .t0 .sub) rfl rfl <| .dld rfl (.g rfl rfl .g2 rfl) (V.ld (v := N y2.setup.Delay) .t1 .k2 (.one isAgg3 rfl)) (fun _ h => (h.imp (Ls.of (.cons .k2 (.cons .k1 (.cons .k0 (.cons .k0 (.cons .k0 (.cons .k0 (.cons .k0 (.cons .k0 (.cons .k0 (.cons .k0 (.cons .k0 (.cons .k0 .nil)))))))))))))).ro Rs.nil) rfl rfl <| .dpu rfl (.g rfl rfl .g2 rfl) (P.bin .t1 .t0 .gtr) rfl rfl <| .dpu rfl (.n rfl) (P.pickT .t1 .t0) rfl rfl <| .dnil ?_
        cases hj25
        exact .stj () (.cons Mm.m0 (.cons Mm.m1 (.cons Mm.m2 (.cons Mm.m5 .nil)))) (.of (.cons .k0 (.cons .k0 (.cons .k0 (.cons .k0 (.cons .k0 (.cons .k0 (.cons .k0 (.cons .k0 (.cons .k0 (.cons .k0 (.cons .k0 (.cons .k0 .nil))))))))))))) .nil
      · rw [if_neg (ne_true_of_eq_false c28)] at hj25
        refine .dsk rfl (.g rfl rfl .g0 rfl) rfl rfl <| .dsk rfl (.g rfl rfl .g0 rfl) rfl rfl <| .dsk rfl (.g rfl rfl .g0 rfl) rfl rfl <| .dsk rfl (.g rfl rfl .g0 rfl) rfl rfl <| .dsk rfl (.g rfl rfl .g0 rfl) rfl rfl <| .dsk rfl (.g rfl rfl .g0 rfl) rfl rfl <| .dsk rfl (.g rfl rfl .g0 rfl) rfl rfl <| .dsk rfl (.g rfl rfl .g0 rfl) rfl rfl <| .dsk rfl (.g rfl rfl .g0 rfl) rfl rfl <| .dsk rfl (.g rfl rfl .g0 rfl) rfl rfl <| .dsk rfl (.g rfl rfl .g0 rfl) rfl rfl <| .dsk rfl (.g rfl rfl .g0 rfl) rfl rfl ?_
        refine .dskl rfl (.g rfl rfl .g0 rfl) (fun _ h => (h.imp (Ls.of (.cons .k2 (.cons .k1 (.cons .k0 (.cons .k0 (.cons .k0 (.cons .k0 (.cons .k0 (.cons .k0 (.cons .k0 (.cons .k0 (.cons .k0 (.cons .k0 .nil)))))))))))))).ro Rs.nil) rfl rfl <| .dskl rfl (.g rfl rfl .g0 rfl) (fun _ h => (h.imp (Ls.of (.cons .k2 (.cons .k1 (.cons .k0 (.cons .k0 (.cons .k0 (.cons .k0 (.cons .k0 (.cons .k0 (.cons .k0 (.cons .k0 (.cons .k0 (.cons .k0 .nil)))))))))))))).ro Rs.nil) rfl rfl <| .dsk rfl (.g rfl rfl .g0 rfl) rfl rfl <| .dskl rfl (.g rfl rfl .g0 rfl) (fun _ h => (h.imp (Ls.of (.cons .k2 (.cons .k1 (.cons .k0 (.cons .k0 (.cons .k0 (.cons .k0 (.cons .k0 (.cons .k0 (.cons .k0 (.cons .k0 (.cons .k0 (.cons .k0 .nil)))))))))))))).ro Rs.nil) rfl rfl <| .dsk rfl (.g rfl rfl .g0 rfl) rfl rfl <| .dpu rfl (.n rfl) (P.pickF .t0 .k) rfl rfl <| .dnil ?_
        cases hj25
        exact .stj () (.cons Mm.m0 (.cons Mm.m1 (.cons Mm.m2 (.cons Mm.m5 .nil)))) (.of (.cons .k0 (.cons .k0 (.cons .k0 (.cons .k0 (.cons .k0 (.cons .k0 (.cons .k0 (.cons .k0 (.cons .k0 (.cons .k0 (.cons .k0 (.cons .k0 .nil))))))))))))) .nil
    · clear hj25
      refine .cond .t0 (fun c29 => ?_) (fun c29 => ?_)
      · rw [if_pos c29] at hj22
        refine .reg rfl <| .opp (P.mov .g2) rfl <| .opp (P.mov .t1) rfl <| .opp (P.nilc .t1) rfl <| .opp (P.fa .t0 fa_83_8 rfl) rfl <| .opp (P.iac (i := 0) .t1 rfl .t0 runUnderlying76 sizeOf4 rfl rfl) rfl <| .opg (G.str .k .t0 .k0 (.mk (cs' := (world_World.cs ⟨y2.setup, ⟨r16, r18⟩, y2.clients, y2.routers, y2.relay, y2.mail, IntKind.i64.wrap (y2.now + 1), y2.seen, ⟨true, y2.late.a1, y2.late.a2, y2.late.a3⟩, y2.since, y2.told, y2.keys, y2.digests, y2.asked, y2.forged, y2.clash⟩ u5 u6 u7 u8 u9 u10 u11 u12 u13 u14 u15)) sizeOf4 rfl rfl rfl rfl)) rfl fun _ _ => .nil <| .inn ?_
        cases hj22
        exact .stj () (.cons Mm.m0 (.cons Mm.m1 .nil)) (.of (.cons .k0 (.cons .k0 (.cons .k0 (.cons .k0 (.cons .k0 (.cons .k0 (.cons .k0 (.cons .k0 (.cons .k0 (.cons .k0 (.cons .k0 (.cons .k0 .nil))))))))))))) .nil
      · rw [if_neg (ne_true_of_eq_false c29)] at hj22
        refine .skip <| .inn ?_
        cases hj22
        exact .stj () (.cons Mm.m1 (.cons Mm.m2 .nil)) (.of (.cons .k0 (.cons .k0 (.cons .k0 (.cons .k0 (.cons .k0 (.cons .k0 (.cons .k0 (.cons .k0 (.cons .k0 (.cons .k0 (.cons .k0 (.cons .k0 .nil))))))))))))) .nil
  · clear hj22
    refine .reg rfl <| .opp (P.bin (v := N 1) .g0 .k (.addc (by decide))) rfl <| .drop .k1 <| .opp (P.mov .t0) rfl <| .nil <| .then <| .rd <| .seq <| .reg rfl <| .opp (P.bin (v := Bo true) .g0 .k (BinV.lss.boolc (by decide))) rfl <| .nil <| .then ?_
    refine .seq <| .condT .t0 <| .skip <| .then ?_
    obtain ⟨y30, hj32, h⟩ := bnd_eq h
    refine .cutx (γ := Unit) (E1 := fun z31 => [(24, N 1), (0, pt b4 0)]) (L1 := fun z31 => [blk b4 83 (world_World.cs ⟨y2.setup, ⟨r16, r18⟩, y2.clients, y2.routers, y2.relay, y2.mail, IntKind.i64.wrap (y2.now + 1), y2.seen, y30, y2.since, y2.told, y2.keys, y2.digests, y2.asked, y2.forged, y2.clash⟩ u5 u6 u7 u8 u9 u10 u11 u12 u13 u14 u15), bx chain_Chain.bd chain_Chain.fp u5 r16, bx chain_Chain.bd chain_Chain.fp u6 r18, bx client_Client.bd client_Client.fp u7 y2.clients.a0, bx client_Client.bd client_Client.fp u8 y2.clients.a1, bx router_Router.bd router_Router.fp u9 y2.routers.a0, bx router_Router.bd router_Router.fp u10 y2.routers.a1, bx relay_Relay.bd relay_Relay.fp u11 y2.relay, mb (fun (x : world_place) => Ag x.cs) (fun (x : Int) => N x) u12 y2.since, mb (fun (x : world_word) => Ag x.cs) (fun (x : Bool) => Bo x) u13 y2.told, mb (fun (x : ByteArray) => Value.string x) (fun (x : api_Inv) => Ag x.cs) u14 y2.keys, mb (fun (x : ByteArray) => Value.string x) (fun (x : world_data) => Ag x.cs) u15 y2.digests]) (R1 := fun z31 => []) ?_ (fun z31 => ?_)
    · clear h
      refine .block <| .seq <| .reg rfl <| .opp (P.mov .g0) rfl <| .opp (P.asg .t0) rfl <| .nil <| .then ?_
      obtain ⟨y33, hj35, hj32⟩ := bnd_eq hj32
      refine .cutx (γ := Unit) (E1 := fun z34 => [(49, Bo y33), (4, N 1), (24, N 1), (0, pt b4 0)]) (L1 := fun z34 => [blk b4 83 (world_World.cs ⟨y2.setup, ⟨r16, r18⟩, y2.clients, y2.routers, y2.relay, y2.mail, IntKind.i64.wrap (y2.now + 1), y2.seen, y20, y2.since, y2.told, y2.keys, y2.digests, y2.asked, y2.forged, y2.clash⟩ u5 u6 u7 u8 u9 u10 u11 u12 u13 u14 u15), bx chain_Chain.bd chain_Chain.fp u5 r16, bx chain_Chain.bd chain_Chain.fp u6 r18, bx client_Client.bd client_Client.fp u7 y2.clients.a0, bx client_Client.bd client_Client.fp u8 y2.clients.a1, bx router_Router.bd router_Router.fp u9 y2.routers.a0, bx router_Router.bd router_Router.fp u10 y2.routers.a1, bx relay_Relay.bd relay_Relay.fp u11 y2.relay, mb (fun (x : world_place) => Ag x.cs) (fun (x : Int) => N x) u12 y2.since, mb (fun (x : world_word) => Ag x.cs) (fun (x : Bool) => Bo x) u13 y2.told, mb (fun (x : ByteArray) => Value.string x) (fun (x : api_Inv) => Ag x.cs) u14 y2.keys, mb (fun (x : ByteArray) => Value.string x) (fun (x : world_data) => Ag x.cs) u15 y2.digests]) (R1 := fun z34 => []) ?_ (fun z34 => ?_)
      · clear hj32
        refine .draw 23 (.on 0 .pu (.on 1 .pu (.on 2 .go (.on 3 .pu (.on 4 .pu (.on 5 .pu (.on 6 .pu (.on 7 .pu (.on 9 .pu (.on 10 .pu (.on 11 .pu (.on 12 .pu (.on 13 .pu (.on 16 .pu (.on 17 .pu (.on 18 .pu (.on 19 .pu (.on 8 .ld (.on 14 .ld (.on 15 .pu (.on 20 .ld (.on 21 .pu (.on 22 .pu .nl))))))))))))))))))))))) follows_mixed (.thn (.inb (.thn (.thn (.inb (.thn .body)))))) (by kernel_rfl) <| .dpu rfl (.n rfl) (P.mov .g2) rfl rfl <| .dpu rfl (.n rfl) (P.mov .g1) rfl rfl ?_
        obtain ⟨r36, hr37, hj35⟩ := bnd_eq hj35
        refine .dgo rfl (.n rfl) (G.call call39 (.cons .t1 (.cons .t0 .nil)) (S_world_World_corrupt b4 (⟨y2.setup, ⟨r16, r18⟩, y2.clients, y2.routers, y2.relay, y2.mail, IntKind.i64.wrap (y2.now + 1), y2.seen, y20, y2.since, y2.told, y2.keys, y2.digests, y2.asked, y2.forged, y2.clash⟩ : world_World) u5 u6 u7 u8 u9 u10 u11 u12 u13 u14 u15 1 r36 hr37) (.cons .k0 (.cons .k0 (.cons .k0 (.cons .k0 (.cons .k0 (.cons .k0 (.cons .k0 (.cons .k0 (.cons .k0 (.cons .k0 (.cons .k0 (.cons .k0 .nil)))))))))))) .nil (fun _ _ => rfl) (fun _ _ => rfl) rfl) (.inr fun _ _ _ h => h) fun _ _ => .dpu rfl (.n rfl) (P.not .t0) rfl rfl <| .dpu rfl (.n rfl) (P.mov .t0) rfl rfl <| .split .k0 (fun c38 => ?_) (fun c38 => ?_)
        · rw [if_pos c38] at hj35
          refine .dpu rfl (.g rfl rfl .g0 rfl) (P.mov .g3) rfl rfl <| .dpu rfl (.g rfl rfl .g1 rfl) (P.nilc .t0) rfl rfl <| .dpu rfl (.g rfl rfl .g1 rfl) (P.fa .t0 fa_83_6 rfl) rfl rfl <| .dpu rfl (.g rfl rfl .g1 rfl) (P.mov .g4) rfl rfl <| .dpu rfl (.g rfl rfl .g2 rfl) (P.mov .g3) rfl rfl <| .dpu rfl (.g rfl rfl .g3 rfl) (P.nilc .t1) rfl rfl <| .dpu rfl (.g rfl rfl .g3 rfl) (P.fa .t0 fa_83_7 rfl) rfl rfl <| .dpu rfl (.g rfl rfl .g3 rfl) (P.iac (i := 1) .t1 rfl .t0 runUnderlying75 sizeOf3 rfl rfl) rfl rfl <| .dpu rfl (.g rfl rfl .g2 rfl) (P.mov .g5) rfl rfl <| .dpu rfl (.g rfl rfl .g3 rfl) (P.nilc .t0) rfl rfl <| .dpu rfl (.g rfl rfl .g3 rfl) (P.fa .t0 fa_83_0 rfl) rfl rfl <| .dpu rfl (.g rfl rfl .g3 rfl) (P.fa .t0 fa_23_0 rfl) rfl rfl ?_
          refine .dld rfl (.g rfl rfl .g3 rfl) (V.ld (v := N (IntKind.i64.wrap (y2.now + 1))) .t2 .k0 (.one isAgg3 rfl)) (fun _ h => h) rfl rfl <| .dld rfl (.g rfl rfl .g3 rfl) (V.ld (v := N y2.seen.a1) .t2 .k0 (.one isAgg3 rfl)) (fun _ h => h) rfl rfl <| .dpu rfl (.g rfl rfl .g3 rfl) (P.bin .t1 .t0 .sub) rfl rfl <| .dld rfl (.g rfl rfl .g2 rfl) (V.ld (v := N y2.setup.Delay) .t1 .k0 (.one isAgg3 rfl)) (fun _ h => h) rfl rfl <| .dpu rfl (.g rfl rfl .g2 rfl) (P.bin .t1 .t0 .gtr) rfl rfl <| .dpu rfl (.n rfl) (P.pickT .t1 .t0) rfl rfl <| .dnil ?_
          cases hj35
          exact .stj () (.cons Mm.m0 (.cons Mm.m1 (.cons Mm.m2 (.cons Mm.m3 .nil)))) (.of (.cons .k0 (.cons .k0 (.cons .k0 (.cons .k0 (.cons .k0 (.cons .k0 (.cons .k0 (.cons .k0 (.cons .k0 (.cons .k0 (.cons .k0 (.cons .k0 .nil))))))))))))) .nil
        · rw [if_neg (ne_true_of_eq_false c38)] at hj35
          refine .dsk rfl (.g rfl rfl .g0 rfl) rfl rfl <| .dsk rfl (.g rfl rfl .g0 rfl) rfl rfl <| .dsk rfl (.g rfl rfl .g0 rfl) rfl rfl <| .dsk rfl (.g rfl rfl .g0 rfl) rfl rfl <| .dsk rfl (.g rfl rfl .g0 rfl) rfl rfl <| .dsk rfl (.g rfl rfl .g0 rfl) rfl rfl <| .dsk rfl (.g rfl rfl .g0 rfl) rfl rfl <| .dsk rfl (.g rfl rfl .g0 rfl) rfl rfl <| .dsk rfl (.g rfl rfl .g0 rfl) rfl rfl <| .dsk rfl (.g rfl rfl .g0 rfl) rfl rfl <| .dsk rfl (.g rfl rfl .g0 rfl) rfl rfl <| .dsk rfl (.g rfl rfl .g0 rfl) rfl rfl ?_
          refine .dskl rfl (.g rfl rfl .g0 rfl) (fun _ h => h) rfl rfl <| .dskl rfl (.g rfl rfl .g0 rfl) (fun _ h => h) rfl rfl <| .dsk rfl (.g rfl rfl .g0 rfl) rfl rfl <| .dskl rfl (.g rfl rfl .g0 rfl) (fun _ h => h) rfl rfl <| .dsk rfl (.g rfl rfl .g0 rfl) rfl rfl <| .dpu rfl (.n rfl) (P.pickF .t0 .k) rfl rfl <| .dnil ?_
          cases hj35
          exact .stj () (.cons Mm.m0 (.cons Mm.m1 (.cons Mm.m2 (.cons Mm.m3 .nil)))) (.of (.cons .k0 (.cons .k0 (.cons .k0 (.cons .k0 (.cons .k0 (.cons .k0 (.cons .k0 (.cons .k0 (.cons .k0 (.cons .k0 (.cons .k0 (.cons .k0 .nil))))))))))))) .nil
      · clear hj35
        refine .cond .t0 (fun c39 => ?_) (fun c39 => ?_)
        · rw [if_pos c39] at hj32
          refine .reg rfl <| .opp (P.mov .g2) rfl <| .opp (P.mov .t1) rfl <| .opp (P.nilc .t1) rfl <| .opp (P.fa .t0 fa_83_8 rfl) rfl <| .opp (P.iac (i := 1) .t1 rfl .t0 runUnderlying76 sizeOf4 rfl rfl) rfl <| .opg (G.str .k .t0 .k0 (.mk (cs' := (world_World.cs ⟨y2.setup, ⟨r16, r18⟩, y2.clients, y2.routers, y2.relay, y2.mail, IntKind.i64.wrap (y2.now + 1), y2.seen, ⟨y20.a0, true, y20.a2, y20.a3⟩, y2.since, y2.told, y2.keys, y2.digests, y2.asked, y2.forged, y2.clash⟩ u5 u6 u7 u8 u9 u10 u11 u12 u13 u14 u15)) sizeOf4 rfl rfl rfl rfl)) rfl fun _ _ => .nil <| .inn ?_
          cases hj32
          exact .stj () (.cons Mm.m0 (.cons Mm.m1 .nil)) (.of (.cons .k0 (.cons .k0 (.cons .k0 (.cons .k0 (.cons .k0 (.cons .k0 (.cons .k0 (.cons .k0 (.cons .k0 (.cons .k0 (.cons .k0 (.cons .k0 .nil))))))))))))) .nil
        · rw [if_neg (ne_true_of_eq_false c39)] at hj32
          refine .skip <| .inn ?_
          cases hj32
          exact .stj () (.cons Mm.m1 (.cons Mm.m2 .nil)) (.of (.cons .k0 (.cons .k0 (.cons .k0 (.cons .k0 (.cons .k0 (.cons .k0 (.cons .k0 (.cons .k0 (.cons .k0 (.cons .k0 (.cons .k0 (.cons .k0 .nil))))))))))))) .nil
    · clear hj32
      refine .reg rfl <| .opp (P.bin (v := N 2) .g0 .k (.addc (by decide))) rfl <| .drop .k1 <| .opp (P.mov .t0) rfl <| .nil <| .then <| .rd <| .seq <| .reg rfl <| .opp (P.bin (v := Bo true) .g0 .k (BinV.lss.boolc (by decide))) rfl <| .nil <| .then ?_
      refine .seq <| .condT .t0 <| .skip <| .then ?_
      obtain ⟨y40, hj42, h⟩ := bnd_eq h
      refine .cutx (γ := Unit) (E1 := fun z41 => [(24, N 2), (0, pt b4 0)]) (L1 := fun z41 => [blk b4 83 (world_World.cs ⟨y2.setup, ⟨r16, r18⟩, y2.clients, y2.routers, y2.relay, y2.mail, IntKind.i64.wrap (y2.now + 1), y2.seen, y40, y2.since, y2.told, y2.keys, y2.digests, y2.asked, y2.forged, y2.clash⟩ u5 u6 u7 u8 u9 u10 u11 u12 u13 u14 u15), bx chain_Chain.bd chain_Chain.fp u5 r16, bx chain_Chain.bd chain_Chain.fp u6 r18, bx client_Client.bd client_Client.fp u7 y2.clients.a0, bx client_Client.bd client_Client.fp u8 y2.clients.a1, bx router_Router.bd router_Router.fp u9 y2.routers.a0, bx router_Router.bd router_Router.fp u10 y2.routers.a1, bx relay_Relay.bd relay_Relay.fp u11 y2.relay, mb (fun (x : world_place) => Ag x.cs) (fun (x : Int) => N x) u12 y2.since, mb (fun (x : world_word) => Ag x.cs) (fun (x : Bool) => Bo x) u13 y2.told, mb (fun (x : ByteArray) => Value.string x) (fun (x : api_Inv) => Ag x.cs) u14 y2.keys, mb (fun (x : ByteArray) => Value.string x) (fun (x : world_data) => Ag x.cs) u15 y2.digests]) (R1 := fun z41 => []) ?_ (fun z41 => ?_)
      · clear h
        refine .block <| .seq <| .reg rfl <| .opp (P.mov .g0) rfl <| .opp (P.asg .t0) rfl <| .nil <| .then ?_
        obtain ⟨y43, hj45, hj42⟩ := bnd_eq hj42
        refine .cutx (γ := Unit) (E1 := fun z44 => [(49, Bo y43), (4, N 2), (24, N 2), (0, pt b4 0)]) (L1 := fun z44 => [blk b4 83 (world_World.cs ⟨y2.setup, ⟨r16, r18⟩, y2.clients, y2.routers, y2.relay, y2.mail, IntKind.i64.wrap (y2.now + 1), y2.seen, y30, y2.since, y2.told, y2.keys, y2.digests, y2.asked, y2.forged, y2.clash⟩ u5 u6 u7 u8 u9 u10 u11 u12 u13 u14 u15), bx chain_Chain.bd chain_Chain.fp u5 r16, bx chain_Chain.bd chain_Chain.fp u6 r18, bx client_Client.bd client_Client.fp u7 y2.clients.a0, bx client_Client.bd client_Client.fp u8 y2.clients.a1, bx router_Router.bd router_Router.fp u9 y2.routers.a0, bx router_Router.bd router_Router.fp u10 y2.routers.a1, bx relay_Relay.bd relay_Relay.fp u11 y2.relay, mb (fun (x : world_place) => Ag x.cs) (fun (x : Int) => N x) u12 y2.since, mb (fun (x : world_word) => Ag x.cs) (fun (x : Bool) => Bo x) u13 y2.told, mb (fun (x : ByteArray) => Value.string x) (fun (x : api_Inv) => Ag x.cs) u14 y2.keys, mb (fun (x : ByteArray) => Value.string x) (fun (x : world_data) => Ag x.cs) u15 y2.digests]) (R1 := fun z44 => []) ?_ (fun z44 => ?_)
        · clear hj42
          refine .draw 23 (.on 0 .pu (.on 1 .pu (.on 2 .go (.on 3 .pu (.on 4 .pu (.on 5 .pu (.on 6 .pu (.on 7 .pu (.on 9 .pu (.on 10 .pu (.on 11 .pu (.on 12 .pu (.on 13 .pu (.on 16 .pu (.on 17 .pu (.on 18 .pu (.on 19 .pu (.on 8 .ld (.on 14 .ld (.on 15 .pu (.on 20 .ld (.on 21 .pu (.on 22 .pu .nl))))))))))))))))))))))) follows_mixed (.thn (.inb (.thn (.thn (.inb (.thn .body)))))) (by kernel_rfl) <| .dpu rfl (.n rfl) (P.mov .g2) rfl rfl <| .dpu rfl (.n rfl) (P.mov .g1) rfl rfl ?_
          obtain ⟨r46, hr47, hj45⟩ := bnd_eq hj45
          refine .dgo rfl (.n rfl) (G.call call39 (.cons .t1 (.cons .t0 .nil)) (S_world_World_corrupt b4 (⟨y2.setup, ⟨r16, r18⟩, y2.clients, y2.routers, y2.relay, y2.mail, IntKind.i64.wrap (y2.now + 1), y2.seen, y30, y2.since, y2.told, y2.keys, y2.digests, y2.asked, y2.forged, y2.clash⟩ : world_World) u5 u6 u7 u8 u9 u10 u11 u12 u13 u14 u15 2 r46 hr47) (.cons .k0 (.cons .k0 (.cons .k0 (.cons .k0 (.cons .k0 (.cons .k0 (.cons .k0 (.cons .k0 (.cons .k0 (.cons .k0 (.cons .k0 (.cons .k0 .nil)))))))))))) .nil (fun _ _ => rfl) (fun _ _ => rfl) rfl) (.inr fun _ _ _ h => h) fun _ _ => .dpu rfl (.n rfl) (P.not .t0) rfl rfl <| .dpu rfl (.n rfl) (P.mov .t0) rfl rfl <| .split .k0 (fun c48 => ?_) (fun c48 => ?_)
          · rw [if_pos c48] at hj45
            refine .dpu rfl (.g rfl rfl .g0 rfl) (P.mov .g3) rfl rfl <| .dpu rfl (.g rfl rfl .g1 rfl) (P.nilc .t0) rfl rfl <| .dpu rfl (.g rfl rfl .g1 rfl) (P.fa .t0 fa_83_6 rfl) rfl rfl <| .dpu rfl (.g rfl rfl .g1 rfl) (P.mov .g4) rfl rfl <| .dpu rfl (.g rfl rfl .g2 rfl) (P.mov .g3) rfl rfl <| .dpu rfl (.g rfl rfl .g3 rfl) (P.nilc .t1) rfl rfl <| .dpu rfl (.g rfl rfl .g3 rfl) (P.fa .t0 fa_83_7 rfl) rfl rfl <| .dpu rfl (.g rfl rfl .g3 rfl) (P.iac (i := 2) .t1 rfl .t0 runUnderlying75 sizeOf3 rfl rfl) rfl rfl <| .dpu rfl (.g rfl rfl .g2 rfl) (P.mov .g5) rfl rfl <| .dpu rfl (.g rfl rfl .g3 rfl) (P.nilc .t0) rfl rfl <| .dpu rfl (.g rfl rfl .g3 rfl) (P.fa .t0 fa_83_0 rfl) rfl rfl <| .dpu rfl (.g rfl rfl .g3 rfl) (P.fa .t0 fa_23_0 rfl) rfl rfl ?_
            refine .dld rfl (.g rfl rfl .g3 rfl) (V.ld (v := N (IntKind.i64.wrap (y2.now + 1))) .t2 .k0 (.one isAgg3 rfl)) (fun _ h => h) rfl rfl <| .dld rfl (.g rfl rfl .g3 rfl) (V.ld (v := N y2.seen.a2) .t2 .k0 (.one isAgg3 rfl)) (fun _ h => h) rfl rfl <| .dpu rfl (.g rfl rfl .g3 rfl) (P.bin .t1 .t0 .sub) rfl rfl <| .dld rfl (.g rfl rfl .g2 rfl) (V.ld (v := N y2.setup.Delay) .t1 .k0 (.one isAgg3 rfl)) (fun _ h => h) rfl rfl <| .dpu rfl (.g rfl rfl .g2 rfl) (P.bin .t1 .t0 .gtr) rfl rfl <| .dpu rfl (.n rfl) (P.pickT .t1 .t0) rfl rfl <| .dnil ?_
            cases hj45
            exact .stj () (.cons Mm.m0 (.cons Mm.m1 (.cons Mm.m2 (.cons Mm.m3 .nil)))) (.of (.cons .k0 (.cons .k0 (.cons .k0 (.cons .k0 (.cons .k0 (.cons .k0 (.cons .k0 (.cons .k0 (.cons .k0 (.cons .k0 (.cons .k0 (.cons .k0 .nil))))))))))))) .nil
          · rw [if_neg (ne_true_of_eq_false c48)] at hj45
            refine .dsk rfl (.g rfl rfl .g0 rfl) rfl rfl <| .dsk rfl (.g rfl rfl .g0 rfl) rfl rfl <| .dsk rfl (.g rfl rfl .g0 rfl) rfl rfl <| .dsk rfl (.g rfl rfl .g0 rfl) rfl rfl <| .dsk rfl (.g rfl rfl .g0 rfl) rfl rfl <| .dsk rfl (.g rfl rfl .g0 rfl) rfl rfl <| .dsk rfl (.g rfl rfl .g0 rfl) rfl rfl <| .dsk rfl (.g rfl rfl .g0 rfl) rfl rfl <| .dsk rfl (.g rfl rfl .g0 rfl) rfl rfl <| .dsk rfl (.g rfl rfl .g0 rfl) rfl rfl <| .dsk rfl (.g rfl rfl .g0 rfl) rfl rfl <| .dsk rfl (.g rfl rfl .g0 rfl) rfl rfl ?_
            refine .dskl rfl (.g rfl rfl .g0 rfl) (fun _ h => h) rfl rfl <| .dskl rfl (.g rfl rfl .g0 rfl) (fun _ h => h) rfl rfl <| .dsk rfl (.g rfl rfl .g0 rfl) rfl rfl <| .dskl rfl (.g rfl rfl .g0 rfl) (fun _ h => h) rfl rfl <| .dsk rfl (.g rfl rfl .g0 rfl) rfl rfl <| .dpu rfl (.n rfl) (P.pickF .t0 .k) rfl rfl <| .dnil ?_
            cases hj45
            exact .stj () (.cons Mm.m0 (.cons Mm.m1 (.cons Mm.m2 (.cons Mm.m3 .nil)))) (.of (.cons .k0 (.cons .k0 (.cons .k0 (.cons .k0 (.cons .k0 (.cons .k0 (.cons .k0 (.cons .k0 (.cons .k0 (.cons .k0 (.cons .k0 (.cons .k0 .nil))))))))))))) .nil
        · clear hj45
          refine .cond .t0 (fun c49 => ?_) (fun c49 => ?_)
          · rw [if_pos c49] at hj42
            refine .reg rfl <| .opp (P.mov .g2) rfl <| .opp (P.mov .t1) rfl <| .opp (P.nilc .t1) rfl <| .opp (P.fa .t0 fa_83_8 rfl) rfl <| .opp (P.iac (i := 2) .t1 rfl .t0 runUnderlying76 sizeOf4 rfl rfl) rfl <| .opg (G.str .k .t0 .k0 (.mk (cs' := (world_World.cs ⟨y2.setup, ⟨r16, r18⟩, y2.clients, y2.routers, y2.relay, y2.mail, IntKind.i64.wrap (y2.now + 1), y2.seen, ⟨y30.a0, y30.a1, true, y30.a3⟩, y2.since, y2.told, y2.keys, y2.digests, y2.asked, y2.forged, y2.clash⟩ u5 u6 u7 u8 u9 u10 u11 u12 u13 u14 u15)) sizeOf4 rfl rfl rfl rfl)) rfl fun _ _ => .nil <| .inn ?_
            cases hj42
            exact .stj () (.cons Mm.m0 (.cons Mm.m1 .nil)) (.of (.cons .k0 (.cons .k0 (.cons .k0 (.cons .k0 (.cons .k0 (.cons .k0 (.cons .k0 (.cons .k0 (.cons .k0 (.cons .k0 (.cons .k0 (.cons .k0 .nil))))))))))))) .nil
          · rw [if_neg (ne_true_of_eq_false c49)] at hj42
            refine .skip <| .inn ?_
            cases hj42
            exact .stj () (.cons Mm.m1 (.cons Mm.m2 .nil)) (.of (.cons .k0 (.cons .k0 (.cons .k0 (.cons .k0 (.cons .k0 (.cons .k0 (.cons .k0 (.cons .k0 (.cons .k0 (.cons .k0 (.cons .k0 (.cons .k0 .nil))))))))))))) .nil
      · clear hj42
        refine .reg rfl <| .opp (P.bin (v := N 3) .g0 .k (.addc (by decide))) rfl <| .drop .k1 <| .opp (P.mov .t0) rfl <| .nil <| .then <| .rd <| .seq <| .reg rfl <| .opp (P.bin (v := Bo true) .g0 .k (BinV.lss.boolc (by decide))) rfl <| .nil <| .then ?_
        refine .seq <| .condT .t0 <| .skip <| .then ?_
        obtain ⟨y50, hj52, h⟩ := bnd_eq h
        refine .cutx (γ := Unit) (E1 := fun z51 => [(24, N 3), (0, pt b4 0)]) (L1 := fun z51 => [blk b4 83 (world_World.cs ⟨y2.setup, ⟨r16, r18⟩, y2.clients, y2.routers, y2.relay, y2.mail, IntKind.i64.wrap (y2.now + 1), y2.seen, y50, y2.since, y2.told, y2.keys, y2.digests, y2.asked, y2.forged, y2.clash⟩ u5 u6 u7 u8 u9 u10 u11 u12 u13 u14 u15), bx chain_Chain.bd chain_Chain.fp u5 r16, bx chain_Chain.bd chain_Chain.fp u6 r18, bx client_Client.bd client_Client.fp u7 y2.clients.a0, bx client_Client.bd client_Client.fp u8 y2.clients.a1, bx router_Router.bd router_Router.fp u9 y2.routers.a0, bx router_Router.bd router_Router.fp u10 y2.routers.a1, bx relay_Relay.bd relay_Relay.fp u11 y2.relay, mb (fun (x : world_place) => Ag x.cs) (fun (x : Int) => N x) u12 y2.since, mb (fun (x : world_word) => Ag x.cs) (fun (x : Bool) => Bo x) u13 y2.told, mb (fun (x : ByteArray) => Value.string x) (fun (x : api_Inv) => Ag x.cs) u14 y2.keys, mb (fun (x : ByteArray) => Value.string x) (fun (x : world_data) => Ag x.cs) u15 y2.digests]) (R1 := fun z51 => []) ?_ (fun z51 => ?_)
        · clear h
          refine .block <| .seq <| .reg rfl <| .opp (P.mov .g0) rfl <| .opp (P.asg .t0) rfl <| .nil <| .then ?_
          obtain ⟨y53, hj55, hj52⟩ := bnd_eq hj52
          refine .cutx (γ := Unit) (E1 := fun z54 => [(49, Bo y53), (4, N 3), (24, N 3), (0, pt b4 0)]) (L1 := fun z54 => [blk b4 83 (world_World.cs ⟨y2.setup, ⟨r16, r18⟩, y2.clients, y2.routers, y2.relay, y2.mail, IntKind.i64.wrap (y2.now + 1), y2.seen, y40, y2.since, y2.told, y2.keys, y2.digests, y2.asked, y2.forged, y2.clash⟩ u5 u6 u7 u8 u9 u10 u11 u12 u13 u14 u15), bx chain_Chain.bd chain_Chain.fp u5 r16, bx chain_Chain.bd chain_Chain.fp u6 r18, bx client_Client.bd client_Client.fp u7 y2.clients.a0, bx client_Client.bd client_Client.fp u8 y2.clients.a1, bx router_Router.bd router_Router.fp u9 y2.routers.a0, bx router_Router.bd router_Router.fp u10 y2.routers.a1, bx relay_Relay.bd relay_Relay.fp u11 y2.relay, mb (fun (x : world_place) => Ag x.cs) (fun (x : Int) => N x) u12 y2.since, mb (fun (x : world_word) => Ag x.cs) (fun (x : Bool) => Bo x) u13 y2.told, mb (fun (x : ByteArray) => Value.string x) (fun (x : api_Inv) => Ag x.cs) u14 y2.keys, mb (fun (x : ByteArray) => Value.string x) (fun (x : world_data) => Ag x.cs) u15 y2.digests]) (R1 := fun z54 => []) ?_ (fun z54 => ?_)
          · clear hj52
            refine .draw 23 (.on 0 .pu (.on 1 .pu (.on 2 .go (.on 3 .pu (.on 4 .pu (.on 5 .pu (.on 6 .pu (.on 7 .pu (.on 9 .pu (.on 10 .pu (.on 11 .pu (.on 12 .pu (.on 13 .pu (.on 16 .pu (.on 17 .pu (.on 18 .pu (.on 19 .pu (.on 8 .ld (.on 14 .ld (.on 15 .pu (.on 20 .ld (.on 21 .pu (.on 22 .pu .nl))))))))))))))))))))))) follows_mixed (.thn (.inb (.thn (.thn (.inb (.thn .body)))))) (by kernel_rfl) <| .dpu rfl (.n rfl) (P.mov .g2) rfl rfl <| .dpu rfl (.n rfl) (P.mov .g1) rfl rfl ?_
            obtain ⟨r56, hr57, hj55⟩ := bnd_eq hj55
            refine .dgo rfl (.n rfl) (G.call call39 (.cons .t1 (.cons .t0 .nil)) (S_world_World_corrupt b4 (⟨y2.setup, ⟨r16, r18⟩, y2.clients, y2.routers, y2.relay, y2.mail, IntKind.i64.wrap (y2.now + 1), y2.seen, y40, y2.since, y2.told, y2.keys, y2.digests, y2.asked, y2.forged, y2.clash⟩ : world_World) u5 u6 u7 u8 u9 u10 u11 u12 u13 u14 u15 3 r56 hr57) (.cons .k0 (.cons .k0 (.cons .k0 (.cons .k0 (.cons .k0 (.cons .k0 (.cons .k0 (.cons .k0 (.cons .k0 (.cons .k0 (.cons .k0 (.cons .k0 .nil)))))))))))) .nil (fun _ _ => rfl) (fun _ _ => rfl) rfl) (.inr fun _ _ _ h => h) fun _ _ => .dpu rfl (.n rfl) (P.not .t0) rfl rfl <| .dpu rfl (.n rfl) (P.mov .t0) rfl rfl <| .split .k0 (fun c58 => ?_) (fun c58 => ?_)
            · rw [if_pos c58] at hj55
              refine .dpu rfl (.g rfl rfl .g0 rfl) (P.mov .g3) rfl rfl <| .dpu rfl (.g rfl rfl .g1 rfl) (P.nilc .t0) rfl rfl <| .dpu rfl (.g rfl rfl .g1 rfl) (P.fa .t0 fa_83_6 rfl) rfl rfl <| .dpu rfl (.g rfl rfl .g1 rfl) (P.mov .g4) rfl rfl <| .dpu rfl (.g rfl rfl .g2 rfl) (P.mov .g3) rfl rfl <| .dpu rfl (.g rfl rfl .g3 rfl) (P.nilc .t1) rfl rfl <| .dpu rfl (.g rfl rfl .g3 rfl) (P.fa .t0 fa_83_7 rfl) rfl rfl <| .dpu rfl (.g rfl rfl .g3 rfl) (P.iac (i := 3) .t1 rfl .t0 runUnderlying75 sizeOf3 rfl rfl) rfl rfl <| .dpu rfl (.g rfl rfl .g2 rfl) (P.mov .g5) rfl rfl <| .dpu rfl (.g rfl rfl .g3 rfl) (P.nilc .t0) rfl rfl <| .dpu rfl (.g rfl rfl .g3 rfl) (P.fa .t0 fa_83_0 rfl) rfl rfl <| .dpu rfl (.g rfl rfl .g3 rfl) (P.fa .t0 fa_23_0 rfl) rfl rfl ?_
              refine .dld rfl (.g rfl rfl .g3 rfl) (V.ld (v := N (IntKind.i64.wrap (y2.now + 1))) .t2 .k0 (.one isAgg3 rfl)) (fun _ h => h) rfl rfl <| .dld rfl (.g rfl rfl .g3 rfl) (V.ld (v := N y2.seen.a3) .t2 .k0 (.one isAgg3 rfl)) (fun _ h => h) rfl rfl <| .dpu rfl (.g rfl rfl .g3 rfl) (P.bin .t1 .t0 .sub) rfl rfl <| .dld rfl (.g rfl rfl .g2 rfl) (V.ld (v := N y2.setup.Delay) .t1 .k0 (.one isAgg3 rfl)) (fun _ h => h) rfl rfl <| .dpu rfl (.g rfl rfl .g2 rfl) (P.bin .t1 .t0 .gtr) rfl rfl <| .dpu rfl (.n rfl) (P.pickT .t1 .t0) rfl rfl <| .dnil ?_
              cases hj55
              exact .stj () (.cons Mm.m0 (.cons Mm.m1 (.cons Mm.m2 (.cons Mm.m3 .nil)))) (.of (.cons .k0 (.cons .k0 (.cons .k0 (.cons .k0 (.cons .k0 (.cons .k0 (.cons .k0 (.cons .k0 (.cons .k0 (.cons .k0 (.cons .k0 (.cons .k0 .nil))))))))))))) .nil
            · rw [if_neg (ne_true_of_eq_false c58)] at hj55
              refine .dsk rfl (.g rfl rfl .g0 rfl) rfl rfl <| .dsk rfl (.g rfl rfl .g0 rfl) rfl rfl <| .dsk rfl (.g rfl rfl .g0 rfl) rfl rfl <| .dsk rfl (.g rfl rfl .g0 rfl) rfl rfl <| .dsk rfl (.g rfl rfl .g0 rfl) rfl rfl <| .dsk rfl (.g rfl rfl .g0 rfl) rfl rfl <| .dsk rfl (.g rfl rfl .g0 rfl) rfl rfl <| .dsk rfl (.g rfl rfl .g0 rfl) rfl rfl <| .dsk rfl (.g rfl rfl .g0 rfl) rfl rfl <| .dsk rfl (.g rfl rfl .g0 rfl) rfl rfl <| .dsk rfl (.g rfl rfl .g0 rfl) rfl rfl <| .dsk rfl (.g rfl rfl .g0 rfl) rfl rfl ?_
              refine .dskl rfl (.g rfl rfl .g0 rfl) (fun _ h => h) rfl rfl <| .dskl rfl (.g rfl rfl .g0 rfl) (fun _ h => h) rfl rfl <| .dsk rfl (.g rfl rfl .g0 rfl) rfl rfl <| .dskl rfl (.g rfl rfl .g0 rfl) (fun _ h => h) rfl rfl <| .dsk rfl (.g rfl rfl .g0 rfl) rfl rfl <| .dpu rfl (.n rfl) (P.pickF .t0 .k) rfl rfl <| .dnil ?_
              cases hj55
              exact .stj () (.cons Mm.m0 (.cons Mm.m1 (.cons Mm.m2 (.cons Mm.m3 .nil)))) (.of (.cons .k0 (.cons .k0 (.cons .k0 (.cons .k0 (.cons .k0 (.cons .k0 (.cons .k0 (.cons .k0 (.cons .k0 (.cons .k0 (.cons .k0 (.cons .k0 .nil))))))))))))) .nil
          · clear hj55
            refine .cond .t0 (fun c59 => ?_) (fun c59 => ?_)
            · rw [if_pos c59] at hj52
              refine .reg rfl <| .opp (P.mov .g2) rfl <| .opp (P.mov .t1) rfl <| .opp (P.nilc .t1) rfl <| .opp (P.fa .t0 fa_83_8 rfl) rfl <| .opp (P.iac (i := 3) .t1 rfl .t0 runUnderlying76 sizeOf4 rfl rfl) rfl <| .opg (G.str .k .t0 .k0 (.mk (cs' := (world_World.cs ⟨y2.setup, ⟨r16, r18⟩, y2.clients, y2.routers, y2.relay, y2.mail, IntKind.i64.wrap (y2.now + 1), y2.seen, ⟨y40.a0, y40.a1, y40.a2, true⟩, y2.since, y2.told, y2.keys, y2.digests, y2.asked, y2.forged, y2.clash⟩ u5 u6 u7 u8 u9 u10 u11 u12 u13 u14 u15)) sizeOf4 rfl rfl rfl rfl)) rfl fun _ _ => .nil <| .inn ?_
              cases hj52
              exact .stj () (.cons Mm.m0 (.cons Mm.m1 .nil)) (.of (.cons .k0 (.cons .k0 (.cons .k0 (.cons .k0 (.cons .k0 (.cons .k0 (.cons .k0 (.cons .k0 (.cons .k0 (.cons .k0 (.cons .k0 (.cons .k0 .nil))))))))))))) .nil
            · rw [if_neg (ne_true_of_eq_false c59)] at hj52
              refine .skip <| .inn ?_
              cases hj52
              exact .stj () (.cons Mm.m1 (.cons Mm.m2 .nil)) (.of (.cons .k0 (.cons .k0 (.cons .k0 (.cons .k0 (.cons .k0 (.cons .k0 (.cons .k0 (.cons .k0 (.cons .k0 (.cons .k0 (.cons .k0 (.cons .k0 .nil))))))))))))) .nil
        · clear hj52
          refine .reg rfl <| .opp (P.bin (v := N 4) .g0 .k (.addc (by decide))) rfl <| .drop .k1 <| .opp (P.mov .t0) rfl <| .nil <| .then <| .rd <| .seq <| .reg rfl <| .opp (P.bin (v := Bo false) .g0 .k (BinV.lss.boolc (by decide))) rfl <| .nil <| .then ?_
          refine .seq <| .condF .t0 <| .exit <| .thx <| .thx <| .inb <| .then <| .seq <| .reg rfl <| .opp (P.mov .g1) rfl <| .opp (P.nilc .t0) rfl <| .opp (P.fa .t0 fa_83_9 rfl) rfl ?_
          refine .op (V.ld (v := u12) .t0 .k0 (.one isAgg77 rfl)) rfl ?_
          obtain ⟨y61, hy62, h⟩ := bnd_eq h
          refine .mbo .k8 hy62 fun b63 hz60 => ?_
          replace hz60 : u12 = .map (some b63) := hz60
          subst hz60
          obtain ⟨hb65, h⟩ := grd_eq h
          refine .conseq .k0 (q := mpo (fun (x : world_place) => Ag x.cs) (fun (x : Int) => N x) b63 ([])) (fun _ h_ => by rw [List.isEmpty_iff.1 hb65] at h_; exact h_) <| .opx (X.rng (fk := (fun (x : world_place) => Ag x.cs)) (fe := (fun (x : Int) => N x)) (l := []) .t0 .k0 underlying77) rfl fun b64 => .nil <| .then <| .block <| .rounds 1 <| .rd <| .seq <| .reg rfl <| .op (V.nxt .g0 .k0 .k0) rfl <| .opp (P.ext (v := Bo false) .t0 rfl) rfl <| .nil ?_
          refine .then <| .seq <| .condF .t0 <| .exit <| .thx <| .thx <| .inb ?_
          cases h
          exact .mbc .k1 rfl <| .bxc world_World.bd world_World.fp (b4, u5, u6, u7, u8, u9, u10, u11, (.map (some b63)), u13, u14, u15) (⟨y2.setup, ⟨r16, r18⟩, y2.clients, y2.routers, y2.relay, y2.mail, IntKind.i64.wrap (y2.now + 1), y2.seen, y50, (some ([])), y2.told, y2.keys, y2.digests, y2.asked, y2.forged, y2.clash⟩ : world_World) (z := (pt b4 0)) rfl (.cons .k2 (.cons .k2 (.cons .k2 (.cons .k2 (.cons .k2 (.cons .k2 (.cons .k2 (.cons .k2 (.cons .k0 (.cons .k1 (.cons .k1 (.cons .k1 .nil)))))))))))) <| .finwn () (.r0 rfl) trivial (Ls.of (.cons .k0 .nil)) .nil
attribute [irreducible] world_World_tick_bx
noncomputable def world_World_Step_bx (a0 : Option world_World) (a1 : api_Step) : Option ((Option world_World)) :=
  Option.bind (world_World_is_bx a0) fun r2 => if (!r2) = true then (some a0) else (if (decide (a1.Kind = 1)) = true then (Option.bind (world_World_tick_bx a0) fun r6 => some r6) else (if (decide (a1.Kind = 2)) = true then none else (thn (if (decide (a1.Kind = 3)) = true then (decide (a1.Kind = 3)) else (if (decide (a1.Kind = 4)) = true then (decide (a1.Kind = 4)) else (if (decide (a1.Kind = 5)) = true then (decide (a1.Kind = 5)) else (decide (a1.Kind = 7))))) fun (y9 : Bool) => if y9 = true then none else (if (decide (a1.Kind = 6)) = true then none else (if (decide (a1.Kind = 8)) = true then none else (if (decide (a1.Kind = 9)) = true then none else (if (decide (a1.Kind = 10)) = true then none else (if (decide (a1.Kind = 11)) = true then none else (if (decide (a1.Kind = 12)) = true then none else (if (decide (a1.Kind = 13)) = true then none else (some a0)))))))))))
set_option maxRecDepth 20000 in
set_option maxHeartbeats 8000000 in
theorem S_world_World_Step_bx (v00 : Value) (a0 : Option world_World) (a1 : api_Step) (z01a : Value) (r : (Option world_World)) (h : world_World_Step_bx a0 a1 = some r) :
    SpecF Tryz.prog 25 [v00, Ag (api_Step.cs a1 z01a)] [bx world_World.bd world_World.fp v00 a0] [rows 1 z01a (a1.Data.map (fun x => [B8 x]))] (fun z : Unit => True) (fun z => Tu []) (fun z M => bx world_World.bd world_World.fp v00 r ::  M) (fun z M =>  M) := by
  refine .of func25 rfl ntmps25 rfl fun w0 D0 G0 => ?_
  unfold world_World_Step_bx at h
  refine .seq <| .reg rfl <| .opx (X.box (cs := (api_Step.cs a1 z01a)) .t1 rfl) rfl fun b1 => .nil <| .then <| .seq <| .seq <| .reg rfl <| .opp (P.mov .g1) rfl ?_
  obtain ⟨r2, hr3, h⟩ := bnd_eq h
  refine .opg (G.call call31 (.cons .t0 .nil) (S_world_World_is_bx v00 a0 r2 hr3) (.cons .k1 .nil) .nil (fun _ _ => rfl) (fun _ _ => rfl) rfl) rfl fun _ _ => .opp (P.not .t0) rfl <| .nil <| .then <| .cond .t0 (fun c4 => ?_) (fun c4 => ?_)
  · rw [if_pos c4] at h
    refine .ret <| .thr ?_
    cases h
    exact .finw () (.r0 rfl) trivial (Ls.of (.cons .k0 .nil)) .nil
  · rw [if_neg (ne_true_of_eq_false c4)] at h
    refine .skip <| .then <| .seq <| .reg rfl <| .opp (P.fa .g0 fa_70_0 rfl) rfl <| .op (V.ld (v := N a1.Kind) .t0 .k1 (.one isAgg3 rfl)) rfl <| .nil <| .then <| .block <| .seq <| .reg rfl <| .opp (P.bin .g0 .k .eql) rfl ?_
    refine .opp (P.asg .t0) rfl <| .nil <| .then <| .cond .t0 (fun c5 => ?_) (fun c5 => ?_)
    · rw [if_pos c5] at h
      refine .reg rfl <| .opp (P.mov .t2) rfl ?_
      obtain ⟨r6, hr7, h⟩ := bnd_eq h
      refine .opg (G.call call48 (.cons .t0 .nil) (S_world_World_tick_bx v00 a0 r6 hr7) (.cons .k0 .nil) .nil (fun _ _ => rfl) (fun _ _ => rfl) rfl) rfl fun _ _ => .drop .k0 <| .nil <| .inn ?_
      cases h
      exact .finwn () (.r0 rfl) trivial (Ls.of (.cons .k0 .nil)) .nil
    · rw [if_neg (ne_true_of_eq_false c5)] at h
      refine .seq <| .reg rfl <| .opp (P.bin .g0 .k .eql) rfl <| .opp (P.asg .t0) rfl <| .nil <| .then <| .cond .t0 (fun c8 => ?_) (fun c8 => ?_)
      · rw [if_pos c8] at h
        refine .reg rfl <| .opp (P.mov .t2) rfl <| .opp (P.fa .t2 fa_70_1 rfl) rfl <| .op (V.ld (v := N a1.A) .t0 .k1 (.one isAgg3 rfl)) rfl ?_
        cases h
      · rw [if_neg (ne_true_of_eq_false c8)] at h
        obtain ⟨y9, hj11, h⟩ := thn_eq h
        refine .cutx (γ := Unit) (E1 := fun z10 => [(19, Bo y9), (8, N a1.Kind), (3, pt b1 0), (0, v00)]) (L1 := fun z10 => [blk b1 70 (api_Step.cs a1 z01a), bx world_World.bd world_World.fp v00 a0]) (R1 := fun z10 => [rows 1 z01a (a1.Data.map (fun x => [B8 x]))]) ?_ (fun z10 => ?_)
        · clear h
          refine .seq <| .reg rfl <| .opp (P.bin .g0 .k .eql) rfl <| .opp (P.asg .t0) rfl <| .nil <| .then <| .cond .g0 (fun c12 => ?_) (fun c12 => ?_)
          · rw [if_pos c12] at hj11
            refine .skip ?_
            subst hj11
            exact .stj () (.cons Mm.m0 (.cons Mm.m1 (.cons Mm.m2 (.cons Mm.m3 .nil)))) (.of (.cons .k1 (.cons .k0 .nil))) (.cons Mm.m0 .nil)
          · rw [if_neg (ne_true_of_eq_false c12)] at hj11
            refine .seq <| .reg rfl <| .opp (P.bin .g1 .k .eql) rfl <| .drop .k1 <| .opp (P.asg .t0) rfl <| .nil <| .then <| .cond .g0 (fun c13 => ?_) (fun c13 => ?_)
            · rw [if_pos c13] at hj11
              refine .skip ?_
              subst hj11
              exact .stj () (.cons Mm.m0 (.cons Mm.m1 (.cons Mm.m2 (.cons Mm.m3 .nil)))) (.of (.cons .k1 (.cons .k0 .nil))) (.cons Mm.m0 .nil)
            · rw [if_neg (ne_true_of_eq_false c13)] at hj11
              refine .seq <| .reg rfl <| .opp (P.bin .g1 .k .eql) rfl <| .drop .k1 <| .opp (P.asg .t0) rfl <| .nil <| .then <| .cond .g0 (fun c14 => ?_) (fun c14 => ?_)
              · rw [if_pos c14] at hj11
                refine .skip ?_
                subst hj11
                exact .stj () (.cons Mm.m0 (.cons Mm.m1 (.cons Mm.m2 (.cons Mm.m3 .nil)))) (.of (.cons .k1 (.cons .k0 .nil))) (.cons Mm.m0 .nil)
              · rw [if_neg (ne_true_of_eq_false c14)] at hj11
                refine .reg rfl <| .opp (P.bin .g1 .k .eql) rfl <| .drop .k1 <| .opp (P.asg .t0) rfl <| .nil ?_
                subst hj11
                exact .stj () (.cons Mm.m0 (.cons Mm.m1 (.cons Mm.m2 (.cons Mm.m3 .nil)))) (.of (.cons .k1 (.cons .k0 .nil))) (.cons Mm.m0 .nil)
        · clear hj11
          refine .cond .t0 (fun c15 => ?_) (fun c15 => ?_)
          · rw [if_pos c15] at h
            refine .reg rfl <| .opp (P.mov .t2) rfl <| .op (V.ld (v := Ag (api_Step.cs a1 z01a)) .t2 .k0 (.agg isAgg70 sizeOf70 rfl rfl)) rfl ?_
            cases h
          · rw [if_neg (ne_true_of_eq_false c15)] at h
            refine .seq <| .reg rfl <| .opp (P.bin .g0 .k .eql) rfl <| .opp (P.asg .t0) rfl <| .nil <| .then <| .cond .t0 (fun c16 => ?_) (fun c16 => ?_)
            · rw [if_pos c16] at h
              refine .reg rfl <| .opp (P.mov .t2) rfl <| .opp (P.fa .g2 fa_70_2 rfl) rfl <| .op (V.ld (v := N a1.B) .t0 .k0 (.one isAgg3 rfl)) rfl <| .opp (P.fa .t3 fa_70_4 rfl) rfl <| .op (V.ld (v := z01a) .t0 .k0 (.one isAgg68 rfl)) rfl ?_
              cases h
            · rw [if_neg (ne_true_of_eq_false c16)] at h
              refine .seq <| .reg rfl <| .opp (P.bin .g0 .k .eql) rfl <| .opp (P.asg .t0) rfl <| .nil <| .then <| .cond .t0 (fun c17 => ?_) (fun c17 => ?_)
              · rw [if_pos c17] at h
                refine .reg rfl <| .opp (P.mov .t2) rfl <| .opp (P.fa .g2 fa_70_2 rfl) rfl <| .op (V.ld (v := N a1.B) .t0 .k0 (.one isAgg3 rfl)) rfl <| .opp (P.fa .t3 fa_70_1 rfl) rfl <| .op (V.ld (v := N a1.A) .t0 .k0 (.one isAgg3 rfl)) rfl ?_
                cases h
              · rw [if_neg (ne_true_of_eq_false c17)] at h
                refine .seq <| .reg rfl <| .opp (P.bin .g0 .k .eql) rfl <| .opp (P.asg .t0) rfl <| .nil <| .then <| .cond .t0 (fun c18 => ?_) (fun c18 => ?_)
                · rw [if_pos c18] at h
                  refine .reg rfl <| .opp (P.mov .t2) rfl <| .opp (P.fa .g2 fa_70_1 rfl) rfl <| .op (V.ld (v := N a1.A) .t0 .k0 (.one isAgg3 rfl)) rfl <| .opp (P.fa .g3 fa_70_2 rfl) rfl <| .op (V.ld (v := N a1.B) .t0 .k0 (.one isAgg3 rfl)) rfl <| .opp (P.fa .t4 fa_70_3 rfl) rfl <| .op (V.ld (v := N a1.C) .t0 .k0 (.one isAgg3 rfl)) rfl ?_
                  cases h
                · rw [if_neg (ne_true_of_eq_false c18)] at h
                  refine .seq <| .reg rfl <| .opp (P.bin .g0 .k .eql) rfl <| .opp (P.asg .t0) rfl <| .nil <| .then <| .cond .t0 (fun c19 => ?_) (fun c19 => ?_)
                  · rw [if_pos c19] at h
                    refine .reg rfl <| .opp (P.mov .t2) rfl <| .opp (P.fa .g2 fa_70_1 rfl) rfl <| .op (V.ld (v := N a1.A) .t0 .k0 (.one isAgg3 rfl)) rfl <| .opp (P.fa .t3 fa_70_2 rfl) rfl <| .op (V.ld (v := N a1.B) .t0 .k0 (.one isAgg3 rfl)) rfl ?_
                    cases h
                  · rw [if_neg (ne_true_of_eq_false c19)] at h
                    refine .seq <| .reg rfl <| .opp (P.bin .g0 .k .eql) rfl <| .opp (P.asg .t0) rfl <| .nil <| .then <| .cond .t0 (fun c20 => ?_) (fun c20 => ?_)
                    · rw [if_pos c20] at h
                      refine .reg rfl <| .opp (P.mov .t2) rfl <| .opp (P.fa .t2 fa_70_1 rfl) rfl <| .op (V.ld (v := N a1.A) .t0 .k0 (.one isAgg3 rfl)) rfl ?_
                      cases h
                    · rw [if_neg (ne_true_of_eq_false c20)] at h
                      refine .seq <| .reg rfl <| .opp (P.bin .g0 .k .eql) rfl <| .opp (P.asg .t0) rfl <| .nil <| .then <| .cond .t0 (fun c21 => ?_) (fun c21 => ?_)
                      · rw [if_pos c21] at h
                        refine .reg rfl <| .opp (P.mov .t2) rfl <| .opp (P.fa .g2 fa_70_1 rfl) rfl <| .op (V.ld (v := N a1.A) .t0 .k0 (.one isAgg3 rfl)) rfl <| .opp (P.fa .t3 fa_70_2 rfl) rfl <| .op (V.ld (v := N a1.B) .t0 .k0 (.one isAgg3 rfl)) rfl ?_
                        cases h
                      · rw [if_neg (ne_true_of_eq_false c21)] at h
                        refine .seq <| .reg rfl <| .opp (P.bin .t0 .k .eql) rfl <| .opp (P.asg .t0) rfl <| .nil <| .then <| .cond .t0 (fun c22 => ?_) (fun c22 => ?_)
                        · rw [if_pos c22] at h
                          refine .reg rfl <| .opp (P.mov .t1) rfl ?_
                          cases h
                        · rw [if_neg (ne_true_of_eq_false c22)] at h
                          refine .skip <| .inn ?_
                          cases h
                          exact .finwn () (.r0 rfl) trivial (Ls.of (.cons .k1 .nil)) .nil
attribute [irreducible] world_World_Step_bx
noncomputable def world_World_Now_bx (a0 : Option world_World) : Option (Int) :=
  Option.bind (world_World_is_bx a0) fun r1 => if (!r1) = true then (some 0) else (Option.bind a0 fun (y5 : world_World) => some y5.now)
set_option maxRecDepth 20000 in
set_option maxHeartbeats 8000000 in
theorem S_world_World_Now_bx (v00 : Value) (a0 : Option world_World) (r : Int) (h : world_World_Now_bx a0 = some r) :
    SpecF Tryz.prog 15 [v00] [bx world_World.bd world_World.fp v00 a0] [] (fun z : Unit => True) (fun z => N r) (fun z M => bx world_World.bd world_World.fp v00 a0 ::  M) (fun z M =>  M) := by
  refine .of func15 rfl ntmps15 rfl fun w0 D0 G0 => ?_
  unfold world_World_Now_bx at h
  refine .seq <| .reg rfl <| .op0 (OpP.toV (P.asg .k)) rfl <| .nil <| .then <| .seq <| .seq <| .reg rfl <| .opp (P.mov .g0) rfl ?_
  obtain ⟨r1, hr2, h⟩ := bnd_eq h
  refine .opg (G.call call31 (.cons .t0 .nil) (S_world_World_is_bx v00 a0 r1 hr2) (.cons .k0 .nil) .nil (fun _ _ => rfl) (fun _ _ => rfl) rfl) rfl fun _ _ => .opp (P.not .t0) rfl <| .nil <| .then <| .cond .t0 (fun c3 => ?_) (fun c3 => ?_)
  · rw [if_pos c3] at h
    refine .seq <| .reg rfl <| .opp (P.asg .k) rfl <| .nil <| .then <| .ret <| .thr ?_
    cases h
    exact .finw () (.r1 rfl (.tmp .g0)) trivial (Ls.of (.cons .k0 .nil)) .nil
  · rw [if_neg (ne_true_of_eq_false c3)] at h
    refine .skip <| .then <| .seq <| .reg rfl <| .opp (P.mov .t0) rfl ?_
    obtain ⟨y5, hy6, h⟩ := bnd_eq h
    refine .bxo .k0 hy6 (fun _ _ _ => rfl) fun ⟨b7, u8, u9, u10, u11, u12, u13, u14, u15, u16, u17, u18⟩ hz4 => ?_
    replace hz4 : v00 = pt b7 0 := hz4
    subst hz4
    refine .opp (P.nilc .t0) rfl <| .opp (P.fa .t0 fa_83_6 rfl) rfl <| .op (V.ld (v := N y5.now) .t0 .k0 (.one isAgg3 rfl)) rfl <| .opp (P.asg .t0) rfl <| .nil <| .then <| .ret ?_
    cases h
    exact .bxc world_World.bd world_World.fp (b7, u8, u9, u10, u11, u12, u13, u14, u15, u16, u17, u18) y5 (z := (pt b7 0)) rfl (.cons .k0 (.cons .k0 (.cons .k0 (.cons .k0 (.cons .k0 (.cons .k0 (.cons .k0 (.cons .k0 (.cons .k0 (.cons .k0 (.cons .k0 (.cons .k0 .nil)))))))))))) <| .conseq .k0 (q := bx world_World.bd world_World.fp (pt b7 0) a0) (fun _ h_ => by rw [hy6]; exact h_) <| .finw () (.r1 rfl (.tmp .g0)) trivial (Ls.of (.cons .k0 .nil)) .nil
attribute [irreducible] world_World_Now_bx
noncomputable def net_all_nil  : (List api_Mail) :=
  ([] : List api_Mail)
set_option maxRecDepth 20000 in
set_option maxHeartbeats 8000000 in
theorem S_net_all_nil  (r : (List api_Mail)) (h : net_all_nil  = r) :
    SpecF Tryz.prog 62 [nilSl] [] [] (fun z : Value × List Value => True) (fun z => z.1) (fun z M => lst 123 2 z.1 (List.zipWith api_Mail.cs r z.2) ::  M) (fun z M => gz api_Mail.g r z.2 ::  M) := by
  refine .of func62 rfl ntmps62 rfl fun w0 D0 G0 => ?_
  unfold net_all_nil at h
  refine .seq <| .reg rfl <| .op0 (OpP.toV (P.asg .k)) rfl <| .nil <| .then <| .seq <| .reg rfl <| .opp (P.asg .k) rfl <| .nil <| .then <| .seq <| .seq ?_
  refine .reg rfl <| .opp (P.mov .t1) rfl <| .opp (P.lenn .g0 runUnderlying46) rfl <| .opp (P.mov .k) rfl <| .nil <| .then <| .block <| .rounds 1 <| .rd <| .seq <| .reg rfl <| .opp (P.bin (v := Bo false) .g0 .g1 (BinV.lss.boolc (by decide))) rfl ?_
  refine .nil <| .then <| .seq <| .condF .t0 <| .exit <| .thx <| .thx <| .inb <| .then <| .seq <| .reg rfl <| .opp (P.mov .t3) rfl ?_
  refine .opp (P.asg .t0) rfl <| .nil <| .then <| .ret ?_
  subst h
  exact .lnil 123 2 <| .gzn (G := api_Mail.g) <| .finw ⟨nilSl, []⟩ (.r1 rfl (.tmp .g0)) trivial (Ls.of (.cons .k0 .nil)) (.cons Mm.m0 .nil)
attribute [irreducible] net_all_nil
noncomputable def net_Twin_nil (a1 : Int) : (List api_Mail) :=
  net_all_nil
set_option maxRecDepth 20000 in
set_option maxHeartbeats 8000000 in
theorem S_net_Twin_nil (a1 : Int) (r : (List api_Mail)) (h : net_Twin_nil a1 = r) :
    SpecF Tryz.prog 35 [nilSl, N a1] [] [] (fun z : Value × List Value => True) (fun z => z.1) (fun z M => lst 123 2 z.1 (List.zipWith api_Mail.cs r z.2) ::  M) (fun z M => gz api_Mail.g r z.2 ::  M) := by
  refine .of func35 rfl ntmps35 rfl fun w0 D0 G0 => ?_
  unfold net_Twin_nil at h
  refine .seq <| .reg rfl <| .op0 (OpP.toV (P.asg .k)) rfl <| .nil <| .then <| .seq <| .reg rfl <| .opp (P.mov .g0) rfl <| .opg (G.call call62 (.cons .t0 .nil) (S_net_all_nil  _ rfl) .nil .nil (fun _ _ => rfl) (fun _ _ => rfl) rfl) rfl fun ⟨u1, w2⟩ _ => .opp (P.asg .t0) rfl <| .nil <| .then ?_
  refine .seq <| .seq <| .reg rfl <| .opp (P.mov .g1) rfl <| .opp (P.lenn .t0 runUnderlying46) rfl <| .opp (P.bin (v := Bo true) .t0 .k (BinV.eql.boolc (by decide))) rfl <| .nil <| .then <| .condT .t0 <| .seq <| .reg rfl <| .opp (P.mov .t0) rfl ?_
  refine .opp (P.asg .t0) rfl <| .nil <| .then <| .ret <| .thr ?_
  subst h
  exact .finw ⟨u1, w2⟩ (.r1 rfl (.tmp .g0)) trivial (Ls.of (.cons .k0 .nil)) (.cons Mm.m0 .nil)
attribute [irreducible] net_Twin_nil
noncomputable def world_World_Mail_bx (a0 : Option world_World) : Option ((List api_Mail)) :=
  Option.bind (world_World_is_bx a0) fun r1 => if (!r1) = true then (some ([] : List api_Mail)) else (Option.bind a0 fun (y5 : world_World) => grd (okS (net_Twin_nil 0).length none (some 0) none) <| some ((slc (net_Twin_nil 0) 0 (0 : Int).toNat)))
set_option maxRecDepth 20000 in
set_option maxHeartbeats 8000000 in
theorem S_world_World_Mail_bx (v00 : Value) (a0 : Option world_World) (r : (List api_Mail)) (h : world_World_Mail_bx a0 = some r) :
    SpecF Tryz.prog 14 [v00] [bx world_World.bd world_World.fp v00 a0] [] (fun z : Value × List Value => True) (fun z => z.1) (fun z M => bx world_World.bd world_World.fp v00 a0 ::  M) (fun z M => rows 2 z.1 (List.zipWith api_Mail.cs r z.2) :: gz api_Mail.g r z.2 ::  M) := by
  refine .of func14 rfl ntmps14 rfl fun w0 D0 G0 => ?_
  unfold world_World_Mail_bx at h
  refine .seq <| .reg rfl <| .op0 (OpP.toV (P.asg .k)) rfl <| .nil <| .then <| .seq <| .seq <| .reg rfl <| .opp (P.mov .g0) rfl ?_
  obtain ⟨r1, hr2, h⟩ := bnd_eq h
  refine .opg (G.call call31 (.cons .t0 .nil) (S_world_World_is_bx v00 a0 r1 hr2) (.cons .k0 .nil) .nil (fun _ _ => rfl) (fun _ _ => rfl) rfl) rfl fun _ _ => .opp (P.not .t0) rfl <| .nil <| .then <| .cond .t0 (fun c3 => ?_) (fun c3 => ?_)
  · rw [if_pos c3] at h
    refine .seq <| .reg rfl <| .opp (P.asg .k) rfl <| .nil <| .then <| .ret <| .thr ?_
    cases h
    exact .rnil0 2 <| .gzn (G := api_Mail.g) <| .finw ⟨nilSl, []⟩ (.r1 rfl (.tmp .g0)) trivial (Ls.of (.cons .k0 .nil)) (.cons Mm.m1 (.cons Mm.m0 .nil))
  · rw [if_neg (ne_true_of_eq_false c3)] at h
    refine .skip <| .then <| .seq ?_
    obtain ⟨y5, hy6, h⟩ := bnd_eq h
    refine .bxo .k0 hy6 (fun _ _ _ => rfl) fun ⟨b7, u8, u9, u10, u11, u12, u13, u14, u15, u16, u17, u18⟩ hz4 => ?_
    replace hz4 : v00 = pt b7 0 := hz4
    subst hz4
    refine .draw 23 (.on 0 .pu (.on 1 .pu (.on 2 .pu (.on 4 .pu (.on 5 .pu (.on 6 .pu (.on 9 .pu (.on 10 .pu (.on 11 .pu (.on 16 .pu (.on 17 .pu (.on 18 .pu (.on 3 .ld (.on 7 .ld (.on 8 .ld (.on 12 .ld (.on 13 .ld (.on 14 .pu (.on 19 .ld (.on 20 .ld (.on 15 .go (.on 21 .pu (.on 22 .go .nl))))))))))))))))))))))) follows_mixed (.thn .body) (by kernel_rfl) <| .dpu rfl (.n rfl) (P.mov .g0) rfl rfl <| .dpu rfl (.n rfl) (P.nilc .t0) rfl rfl <| .dpu rfl (.n rfl) (P.fa .t0 fa_83_5 rfl) rfl rfl <| .dpu rfl (.n rfl) (P.mov .g1) rfl rfl <| .dpu rfl (.n rfl) (P.nilc .t0) rfl rfl <| .dpu rfl (.n rfl) (P.fa .t0 fa_83_5 rfl) rfl rfl <| .dpu rfl (.n rfl) (P.mov .g2) rfl rfl <| .dpu rfl (.n rfl) (P.nilc .t0) rfl rfl <| .dpu rfl (.n rfl) (P.fa .t0 fa_83_5 rfl) rfl rfl <| .dpu rfl (.n rfl) (P.mov .t3) rfl rfl <| .dpu rfl (.n rfl) (P.nilc .t0) rfl rfl ?_
    refine .dpu rfl (.n rfl) (P.fa .t0 fa_83_5 rfl) rfl rfl <| .dld rfl (.n rfl) (V.ld (v := nilSl) .t3 .k0 (.one isAgg46 rfl)) (fun _ h => h) rfl rfl <| .dld rfl (.n rfl) (V.ld (v := nilSl) .t3 .k0 (.one isAgg46 rfl)) (fun _ h => h) rfl rfl <| .dld rfl (.n rfl) (OpP.toV (P.lenn .t0 runUnderlying46)) (fun _ h => h) rfl rfl <| .dld rfl (.n rfl) (V.ld (v := nilSl) .t3 .k0 (.one isAgg46 rfl)) (fun _ h => h) rfl rfl <| .dld rfl (.n rfl) (OpP.toV (P.lenn .t0 runUnderlying46)) (fun _ h => h) rfl rfl <| .dpu rfl (.n rfl) (P.sln3 .t2 .t1 .t0 runUnderlying46 sizeOf123) rfl rfl <| .dld rfl (.n rfl) (V.ld (v := nilSl) .t1 .k0 (.one isAgg46 rfl)) (fun _ h => h) rfl rfl <| .dld rfl (.n rfl) (OpP.toV (P.lenn .t0 runUnderlying46)) (fun _ h => h) rfl rfl <| .dgo rfl (.n rfl) (G.call call35 (.cons .t1 (.cons .k .nil)) (S_net_Twin_nil 0 _ rfl) .nil .nil (fun _ _ => rfl) (fun _ _ => rfl) rfl) (.inr fun _ _ _ h => (h.imp (Ls.of (.cons .k1 (.cons .k1 (.cons .k1 (.cons .k1 (.cons .k1 (.cons .k1 (.cons .k1 (.cons .k1 (.cons .k1 (.cons .k1 (.cons .k1 (.cons .k1 .nil)))))))))))))).ro Rs.nil) fun ⟨u19, w20⟩ _ => .frz .k0 <| .gzl Mm.m1 fun hz21 => ?_
    obtain ⟨hb22, h⟩ := grd_eq h
    refine .slnq Mm.m0 fun hq26 => ?_
    simp only [zip_len hz21] at hq26
    refine .dpu rfl (.n rfl) (P.slp (li := none) (hj := (some 0)) (mk := none) .t0 .none (.some .t0) .none hq26 runUnderlying46 sizeOf123 (by simpa [zip_len hz21] using hb22)) rfl rfl <| .slgen Mm.m0 (by simpa [zip_len hz21] using hb22) fun u23 => .rhead (q := rows 2 u23 (List.zipWith api_Mail.cs (slc (net_Twin_nil 0) 0 (0 : Int).toNat) (slc w20 0 (0 : Int).toNat))) (fun _ hh => by simpa [slc_zip, zip_len hz21] using hh) <| .gzs 0 (0 : Int).toNat Mm.m2 <| .dgo rfl (.n rfl) (OpV.g (OpP.toV (P.asg .t0)) rfl) (.inr fun _ _ _ h => (h.imp (Ls.of (.cons .k0 (.cons .k0 (.cons .k0 (.cons .k0 (.cons .k0 (.cons .k0 (.cons .k0 (.cons .k0 (.cons .k0 (.cons .k0 (.cons .k0 (.cons .k0 .nil)))))))))))))).ro Rs.nil) fun _ _ => .dnil <| .then <| .ret ?_
    cases h
    exact .bxc world_World.bd world_World.fp (b7, u8, u9, u10, u11, u12, u13, u14, u15, u16, u17, u18) y5 (z := (pt b7 0)) rfl (.cons .k0 (.cons .k0 (.cons .k0 (.cons .k0 (.cons .k0 (.cons .k0 (.cons .k0 (.cons .k0 (.cons .k0 (.cons .k0 (.cons .k0 (.cons .k0 .nil)))))))))))) <| .conseq .k0 (q := bx world_World.bd world_World.fp (pt b7 0) a0) (fun _ h_ => by rw [hy6]; exact h_) <| .finw ⟨u23, (slc w20 0 (0 : Int).toNat)⟩ (.r1 rfl (.tmp .g0)) trivial (Ls.of (.cons .k0 .nil)) (.cons Mm.m1 (.cons Mm.m0 .nil))
attribute [irreducible] world_World_Mail_bx
noncomputable def world_World_is (a0 : world_World) : Bool :=
  a0.since.isSome
set_option maxRecDepth 20000 in
set_option maxHeartbeats 8000000 in
theorem S_world_World_is (b00 : Nat) (a0 : world_World) (z00a z00b z00c z00d z00e z00f z00g z00h z00i z00j z00k : Value) (r : Bool) (h : world_World_is a0 = r) :
    SpecF Tryz.prog 31 [pt b00 0] [blk b00 83 (world_World.cs a0 z00a z00b z00c z00d z00e z00f z00g z00h z00i z00j z00k), bx chain_Chain.bd chain_Chain.fp z00a a0.sides.a0, bx chain_Chain.bd chain_Chain.fp z00b a0.sides.a1, bx client_Client.bd client_Client.fp z00c a0.clients.a0, bx client_Client.bd client_Client.fp z00d a0.clients.a1, bx router_Router.bd router_Router.fp z00e a0.routers.a0, bx router_Router.bd router_Router.fp z00f a0.routers.a1, bx relay_Relay.bd relay_Relay.fp z00g a0.relay, mb (fun (x : world_place) => Ag x.cs) (fun (x : Int) => N x) z00h a0.since, mb (fun (x : world_word) => Ag x.cs) (fun (x : Bool) => Bo x) z00i a0.told, mb (fun (x : ByteArray) => Value.string x) (fun (x : api_Inv) => Ag x.cs) z00j a0.keys, mb (fun (x : ByteArray) => Value.string x) (fun (x : world_data) => Ag x.cs) z00k a0.digests] [] (fun z : Unit => True) (fun z => Bo r) (fun z M => blk b00 83 (world_World.cs a0 z00a z00b z00c z00d z00e z00f z00g z00h z00i z00j z00k) :: bx chain_Chain.bd chain_Chain.fp z00a a0.sides.a0 :: bx chain_Chain.bd chain_Chain.fp z00b a0.sides.a1 :: bx client_Client.bd client_Client.fp z00c a0.clients.a0 :: bx client_Client.bd client_Client.fp z00d a0.clients.a1 :: bx router_Router.bd router_Router.fp z00e a0.routers.a0 :: bx router_Router.bd router_Router.fp z00f a0.routers.a1 :: bx relay_Relay.bd relay_Relay.fp z00g a0.relay :: mb (fun (x : world_place) => Ag x.cs) (fun (x : Int) => N x) z00h a0.since :: mb (fun (x : world_word) => Ag x.cs) (fun (x : Bool) => Bo x) z00i a0.told :: mb (fun (x : ByteArray) => Value.string x) (fun (x : api_Inv) => Ag x.cs) z00j a0.keys :: mb (fun (x : ByteArray) => Value.string x) (fun (x : world_data) => Ag x.cs) z00k a0.digests ::  M) (fun z M =>  M) := by
  refine .of func31 rfl ntmps31 rfl fun w0 D0 G0 => ?_
  unfold world_World_is at h
  refine .seq <| .reg rfl <| .op0 (OpP.toV (P.asg .k)) rfl <| .nil <| .then <| .seq <| .reg rfl <| .opp (P.mov .g0) rfl <| .opp (P.bin .t0 .k (.ptr_neq (e := 83) (by kernel_rfl))) rfl <| .opp (P.mov .t0) rfl <| .gyes rfl .g0 <| .opp (P.mov .t1) rfl ?_
  refine .gyes rfl .g1 <| .opp (P.nilc .t0) rfl <| .gyes rfl .g1 <| .opp (P.fa .t0 fa_83_9 rfl) rfl <| .gyes rfl .g1 <| .op (V.ld (v := z00h) .t0 .k0 (.one isAgg77 rfl)) rfl <| .gyes rfl .g1 <| .fact .k8 (fun _ hh => mb_nil (P := Tryz.prog) (t := 77) (k := 154) (e := 3) (by kernel_rfl) hh) fun hq1 => .opp (P.bin .t0 .k hq1.2) rfl <| .opp (P.pickT .t1 .t0) rfl <| .opp (P.asg .t0) rfl <| .nil ?_
  refine .then <| .ret ?_
  subst h
  exact .finw () (.r1 rfl (.tmp .g0)) trivial (Ls.of (.cons .k0 (.cons .k0 (.cons .k0 (.cons .k0 (.cons .k0 (.cons .k0 (.cons .k0 (.cons .k0 (.cons .k0 (.cons .k0 (.cons .k0 (.cons .k0 .nil))))))))))))) .nil
attribute [irreducible] world_World_is
noncomputable def world_within (a0 : Int) (a1 : Int) : Bool :=
  thn (if (decide (a0 ≥ 0)) = true then (decide (a0 < a1)) else false) fun (y1 : Bool) => y1
set_option maxRecDepth 20000 in
set_option maxHeartbeats 8000000 in
theorem S_world_within (a0 : Int) (a1 : Int) (r : Bool) (h : world_within a0 a1 = r) :
    SpecF Tryz.prog 32 [N a0, N a1] [] [] (fun z : Unit => True) (fun z => Bo r) (fun z M =>  M) (fun z M =>  M) := by
  refine .of func32 rfl ntmps32 rfl fun w0 D0 G0 => ?_
  unfold world_within at h
  refine .seq <| .reg rfl <| .op0 (OpP.toV (P.asg .k)) rfl <| .nil <| .then ?_
  obtain ⟨y1, hj3, h⟩ := thn_eq h
  refine .cutx (γ := Unit) (E1 := fun z2 => [(4, Bo y1)]) (L1 := fun z2 => []) (R1 := fun z2 => []) ?_ (fun z2 => ?_)
  · clear h
    refine .reg rfl <| .opp (P.mov .g0) rfl <| .opp (P.bin .t0 .k .geq) rfl <| .opp (P.mov .t0) rfl <| .split .k0 (fun c4 => ?_) (fun c4 => ?_)
    · rw [if_pos c4] at hj3
      refine .gyes rfl .g0 <| .opp (P.mov .t1) rfl <| .gyes rfl .g1 <| .opp (P.mov .t2) rfl <| .gyes rfl .g2 <| .opp (P.bin .t1 .t0 .lss) rfl <| .opp (P.pickT .t1 .t0) rfl <| .opp (P.asg .t0) rfl <| .nil ?_
      subst hj3
      exact .stj () (.cons Mm.m0 .nil) (.of .nil) .nil
    · rw [if_neg (ne_true_of_eq_false c4)] at hj3
      refine .gno rfl .g0 rfl rfl <| .gno rfl .g0 rfl rfl <| .gno rfl .g0 rfl rfl <| .opp (P.pickF .t0 .k) rfl <| .opp (P.asg .t0) rfl <| .nil ?_
      subst hj3
      exact .stj () (.cons Mm.m0 .nil) (.of .nil) .nil
  · clear hj3
    refine .ret ?_
    subst h
    exact .finw () (.r1 rfl (.tmp .g0)) trivial (Ls.of .nil) .nil
attribute [irreducible] world_within
noncomputable def world_World_Side_k0 (a0 : world_World) : Nat :=
  thn (if (!(world_World_is a0)) = true then true else (!(world_within 0 2))) fun (y1 : Bool) => if y1 = true then 0 else 1
set_option maxRecDepth 20000 in
set_option maxHeartbeats 8000000 in
theorem S_world_World_Side_k0 (b00 : Nat) (a0 : world_World) (z00a z00b z00c z00d z00e z00f z00g z00h z00i z00j z00k : Value) (r : Nat) (h : world_World_Side_k0 a0 = r) :
    SpecF Tryz.prog 11 [pt b00 0, N 0] [blk b00 83 (world_World.cs a0 z00a z00b z00c z00d z00e z00f z00g z00h z00i z00j z00k), bx chain_Chain.bd chain_Chain.fp z00a a0.sides.a0, bx chain_Chain.bd chain_Chain.fp z00b a0.sides.a1, bx client_Client.bd client_Client.fp z00c a0.clients.a0, bx client_Client.bd client_Client.fp z00d a0.clients.a1, bx router_Router.bd router_Router.fp z00e a0.routers.a0, bx router_Router.bd router_Router.fp z00f a0.routers.a1, bx relay_Relay.bd relay_Relay.fp z00g a0.relay, mb (fun (x : world_place) => Ag x.cs) (fun (x : Int) => N x) z00h a0.since, mb (fun (x : world_word) => Ag x.cs) (fun (x : Bool) => Bo x) z00i a0.told, mb (fun (x : ByteArray) => Value.string x) (fun (x : api_Inv) => Ag x.cs) z00j a0.keys, mb (fun (x : ByteArray) => Value.string x) (fun (x : world_data) => Ag x.cs) z00k a0.digests] [] (fun z : Unit => True) (fun z => pk r 0 [nilp, z00a]) (fun z M => blk b00 83 (world_World.cs a0 z00a z00b z00c z00d z00e z00f z00g z00h z00i z00j z00k) :: bx chain_Chain.bd chain_Chain.fp z00a a0.sides.a0 :: bx chain_Chain.bd chain_Chain.fp z00b a0.sides.a1 :: bx client_Client.bd client_Client.fp z00c a0.clients.a0 :: bx client_Client.bd client_Client.fp z00d a0.clients.a1 :: bx router_Router.bd router_Router.fp z00e a0.routers.a0 :: bx router_Router.bd router_Router.fp z00f a0.routers.a1 :: bx relay_Relay.bd relay_Relay.fp z00g a0.relay :: mb (fun (x : world_place) => Ag x.cs) (fun (x : Int) => N x) z00h a0.since :: mb (fun (x : world_word) => Ag x.cs) (fun (x : Bool) => Bo x) z00i a0.told :: mb (fun (x : ByteArray) => Value.string x) (fun (x : api_Inv) => Ag x.cs) z00j a0.keys :: mb (fun (x : ByteArray) => Value.string x) (fun (x : world_data) => Ag x.cs) z00k a0.digests ::  M) (fun z M =>  M) := by
  refine .of func11 rfl ntmps11 rfl fun w0 D0 G0 => ?_
  unfold world_World_Side_k0 at h
  refine .seq <| .reg rfl <| .op0 (OpP.toV (P.asg .k)) rfl <| .nil <| .then <| .seq ?_
  obtain ⟨y1, hj3, h⟩ := thn_eq h
  refine .cutx (γ := Unit) (E1 := fun z2 => [(12, Bo y1), (0, pt b00 0), (1, N 0)]) (L1 := fun z2 => [blk b00 83 (world_World.cs a0 z00a z00b z00c z00d z00e z00f z00g z00h z00i z00j z00k), bx chain_Chain.bd chain_Chain.fp z00a a0.sides.a0, bx chain_Chain.bd chain_Chain.fp z00b a0.sides.a1, bx client_Client.bd client_Client.fp z00c a0.clients.a0, bx client_Client.bd client_Client.fp z00d a0.clients.a1, bx router_Router.bd router_Router.fp z00e a0.routers.a0, bx router_Router.bd router_Router.fp z00f a0.routers.a1, bx relay_Relay.bd relay_Relay.fp z00g a0.relay, mb (fun (x : world_place) => Ag x.cs) (fun (x : Int) => N x) z00h a0.since, mb (fun (x : world_word) => Ag x.cs) (fun (x : Bool) => Bo x) z00i a0.told, mb (fun (x : ByteArray) => Value.string x) (fun (x : api_Inv) => Ag x.cs) z00j a0.keys, mb (fun (x : ByteArray) => Value.string x) (fun (x : world_data) => Ag x.cs) z00k a0.digests]) (R1 := fun z2 => []) ?_ (fun z2 => ?_)
  · clear h
    refine .reg rfl <| .opp (P.mov .g0) rfl <| .opg (G.call call31 (.cons .t0 .nil) (S_world_World_is b00 a0 z00a z00b z00c z00d z00e z00f z00g z00h z00i z00j z00k _ rfl) (.cons .k0 (.cons .k0 (.cons .k0 (.cons .k0 (.cons .k0 (.cons .k0 (.cons .k0 (.cons .k0 (.cons .k0 (.cons .k0 (.cons .k0 (.cons .k0 .nil)))))))))))) .nil (fun _ _ => rfl) (fun _ _ => rfl) rfl) rfl fun _ _ => .opp (P.not .t0) rfl <| .opp (P.mov .t0) rfl <| .split .k0 (fun c4 => ?_) (fun c4 => ?_)
    · rw [if_pos c4] at hj3
      refine .gno rfl .g0 rfl rfl <| .gno rfl .g0 rfl rfl <| .gno rfl .g0 rfl rfl <| .opp (P.pickT .t0 .k) rfl <| .nil ?_
      subst hj3
      exact .stj () (.cons Mm.m0 (.cons Mm.m1 (.cons Mm.m2 .nil))) (.of (.cons .k0 (.cons .k0 (.cons .k0 (.cons .k0 (.cons .k0 (.cons .k0 (.cons .k0 (.cons .k0 (.cons .k0 (.cons .k0 (.cons .k0 (.cons .k0 .nil))))))))))))) .nil
    · rw [if_neg (ne_true_of_eq_false c4)] at hj3
      refine .gyes rfl .g0 <| .opp (P.mov .g2) rfl <| .gyes rfl .g1 <| .opg (G.call call32 (.cons .t0 (.cons .k .nil)) (S_world_within 0 2 _ rfl) .nil .nil (fun _ _ => rfl) (fun _ _ => rfl) rfl) rfl fun _ _ => .gyes rfl .g1 <| .opp (P.not .t0) rfl <| .opp (P.pickF .t1 .t0) rfl <| .nil ?_
      subst hj3
      exact .stj () (.cons Mm.m0 (.cons Mm.m1 (.cons Mm.m2 .nil))) (.of (.cons .k0 (.cons .k0 (.cons .k0 (.cons .k0 (.cons .k0 (.cons .k0 (.cons .k0 (.cons .k0 (.cons .k0 (.cons .k0 (.cons .k0 (.cons .k0 .nil))))))))))))) .nil
  · clear hj3
    refine .cond .t0 (fun c5 => ?_) (fun c5 => ?_)
    · rw [if_pos c5] at h
      refine .seq <| .reg rfl <| .opp (P.asg .k) rfl <| .nil <| .then <| .ret <| .thr ?_
      subst h
      exact .finw () (.r1 rfl (.tmp .g0)) trivial (Ls.of (.cons .k0 (.cons .k0 (.cons .k0 (.cons .k0 (.cons .k0 (.cons .k0 (.cons .k0 (.cons .k0 (.cons .k0 (.cons .k0 (.cons .k0 (.cons .k0 .nil))))))))))))) .nil
    · rw [if_neg (ne_true_of_eq_false c5)] at h
      refine .skip <| .then <| .seq <| .reg rfl <| .opp (P.mov .t0) rfl <| .opp (P.mov .t1) rfl <| .opp (P.nilc .t1) rfl <| .opp (P.fa .t0 fa_83_1 rfl) rfl <| .opp (P.iac (i := 0) .t1 rfl .t0 runUnderlying71 sizeOf30 rfl rfl) rfl <| .op (V.ld (v := z00a) .t0 .k0 (.one isAgg30 rfl)) rfl <| .opp (P.asg .t0) rfl <| .nil ?_
      refine .then <| .ret ?_
      subst h
      exact .finw () (.r1 rfl (.tmp .g0)) trivial (Ls.of (.cons .k0 (.cons .k0 (.cons .k0 (.cons .k0 (.cons .k0 (.cons .k0 (.cons .k0 (.cons .k0 (.cons .k0 (.cons .k0 (.cons .k0 (.cons .k0 .nil))))))))))))) .nil
attribute [irreducible] world_World_Side_k0
noncomputable def chain_Chain_Time_bx (a0 : Option chain_Chain) : Option (Int) :=
  Option.bind (chain_Chain_is_bx a0) fun r1 => if (!r1) = true then (some 0) else (Option.bind a0 fun (y5 : chain_Chain) => some y5.s.Time)
set_option maxRecDepth 20000 in
set_option maxHeartbeats 8000000 in
theorem S_chain_Chain_Time_bx (v00 : Value) (a0 : Option chain_Chain) (r : Int) (h : chain_Chain_Time_bx a0 = some r) :
    SpecF Tryz.prog 24 [v00] [bx chain_Chain.bd chain_Chain.fp v00 a0] [] (fun z : Unit => True) (fun z => N r) (fun z M => bx chain_Chain.bd chain_Chain.fp v00 a0 ::  M) (fun z M =>  M) := by
  refine .of func24 rfl ntmps24 rfl fun w0 D0 G0 => ?_
  unfold chain_Chain_Time_bx at h
  refine .seq <| .reg rfl <| .op0 (OpP.toV (P.asg .k)) rfl <| .nil <| .then <| .seq <| .seq <| .reg rfl <| .opp (P.mov .g0) rfl ?_
  obtain ⟨r1, hr2, h⟩ := bnd_eq h
  refine .opg (G.call call33 (.cons .t0 .nil) (S_chain_Chain_is_bx v00 a0 r1 hr2) (.cons .k0 .nil) .nil (fun _ _ => rfl) (fun _ _ => rfl) rfl) rfl fun _ _ => .opp (P.not .t0) rfl <| .nil <| .then <| .cond .t0 (fun c3 => ?_) (fun c3 => ?_)
  · rw [if_pos c3] at h
    refine .seq <| .reg rfl <| .opp (P.asg .k) rfl <| .nil <| .then <| .ret <| .thr ?_
    cases h
    exact .finw () (.r1 rfl (.tmp .g0)) trivial (Ls.of (.cons .k0 .nil)) .nil
  · rw [if_neg (ne_true_of_eq_false c3)] at h
    refine .skip <| .then <| .seq <| .reg rfl <| .opp (P.mov .t0) rfl ?_
    obtain ⟨y5, hy6, h⟩ := bnd_eq h
    refine .bxo .k0 hy6 (fun _ _ _ => rfl) fun ⟨b7, u8, u9, u10⟩ hz4 => ?_
    replace hz4 : v00 = pt b7 0 := hz4
    subst hz4
    refine .opp (P.nilc .t0) rfl <| .opp (P.fa .t0 fa_99_0 rfl) rfl <| .opp (P.fa .t0 fa_64_1 rfl) rfl <| .op (V.ld (v := N y5.s.Time) .t0 .k0 (.one isAgg3 rfl)) rfl <| .opp (P.asg .t0) rfl <| .nil <| .then <| .ret ?_
    cases h
    exact .bxc chain_Chain.bd chain_Chain.fp (b7, u8, u9, u10) y5 (z := (pt b7 0)) rfl (.cons .k0 (.cons .k0 (.cons .k0 (.cons .k0 .nil)))) <| .conseq .k0 (q := bx chain_Chain.bd chain_Chain.fp (pt b7 0) a0) (fun _ h_ => by rw [hy6]; exact h_) <| .finw () (.r1 rfl (.tmp .g0)) trivial (Ls.of (.cons .k0 .nil)) .nil
attribute [irreducible] chain_Chain_Time_bx
noncomputable def world_World_Side_k1 (a0 : world_World) : Nat :=
  thn (if (!(world_World_is a0)) = true then true else (!(world_within 1 2))) fun (y1 : Bool) => if y1 = true then 0 else 1
set_option maxRecDepth 20000 in
set_option maxHeartbeats 8000000 in
theorem S_world_World_Side_k1 (b00 : Nat) (a0 : world_World) (z00a z00b z00c z00d z00e z00f z00g z00h z00i z00j z00k : Value) (r : Nat) (h : world_World_Side_k1 a0 = r) :
    SpecF Tryz.prog 11 [pt b00 0, N 1] [blk b00 83 (world_World.cs a0 z00a z00b z00c z00d z00e z00f z00g z00h z00i z00j z00k), bx chain_Chain.bd chain_Chain.fp z00a a0.sides.a0, bx chain_Chain.bd chain_Chain.fp z00b a0.sides.a1, bx client_Client.bd client_Client.fp z00c a0.clients.a0, bx client_Client.bd client_Client.fp z00d a0.clients.a1, bx router_Router.bd router_Router.fp z00e a0.routers.a0, bx router_Router.bd router_Router.fp z00f a0.routers.a1, bx relay_Relay.bd relay_Relay.fp z00g a0.relay, mb (fun (x : world_place) => Ag x.cs) (fun (x : Int) => N x) z00h a0.since, mb (fun (x : world_word) => Ag x.cs) (fun (x : Bool) => Bo x) z00i a0.told, mb (fun (x : ByteArray) => Value.string x) (fun (x : api_Inv) => Ag x.cs) z00j a0.keys, mb (fun (x : ByteArray) => Value.string x) (fun (x : world_data) => Ag x.cs) z00k a0.digests] [] (fun z : Unit => True) (fun z => pk r 0 [nilp, z00b]) (fun z M => blk b00 83 (world_World.cs a0 z00a z00b z00c z00d z00e z00f z00g z00h z00i z00j z00k) :: bx chain_Chain.bd chain_Chain.fp z00a a0.sides.a0 :: bx chain_Chain.bd chain_Chain.fp z00b a0.sides.a1 :: bx client_Client.bd client_Client.fp z00c a0.clients.a0 :: bx client_Client.bd client_Client.fp z00d a0.clients.a1 :: bx router_Router.bd router_Router.fp z00e a0.routers.a0 :: bx router_Router.bd router_Router.fp z00f a0.routers.a1 :: bx relay_Relay.bd relay_Relay.fp z00g a0.relay :: mb (fun (x : world_place) => Ag x.cs) (fun (x : Int) => N x) z00h a0.since :: mb (fun (x : world_word) => Ag x.cs) (fun (x : Bool) => Bo x) z00i a0.told :: mb (fun (x : ByteArray) => Value.string x) (fun (x : api_Inv) => Ag x.cs) z00j a0.keys :: mb (fun (x : ByteArray) => Value.string x) (fun (x : world_data) => Ag x.cs) z00k a0.digests ::  M) (fun z M =>  M) := by
  refine .of func11 rfl ntmps11 rfl fun w0 D0 G0 => ?_
  unfold world_World_Side_k1 at h
  refine .seq <| .reg rfl <| .op0 (OpP.toV (P.asg .k)) rfl <| .nil <| .then <| .seq ?_
  obtain ⟨y1, hj3, h⟩ := thn_eq h
  refine .cutx (γ := Unit) (E1 := fun z2 => [(12, Bo y1), (0, pt b00 0), (1, N 1)]) (L1 := fun z2 => [blk b00 83 (world_World.cs a0 z00a z00b z00c z00d z00e z00f z00g z00h z00i z00j z00k), bx chain_Chain.bd chain_Chain.fp z00a a0.sides.a0, bx chain_Chain.bd chain_Chain.fp z00b a0.sides.a1, bx client_Client.bd client_Client.fp z00c a0.clients.a0, bx client_Client.bd client_Client.fp z00d a0.clients.a1, bx router_Router.bd router_Router.fp z00e a0.routers.a0, bx router_Router.bd router_Router.fp z00f a0.routers.a1, bx relay_Relay.bd relay_Relay.fp z00g a0.relay, mb (fun (x : world_place) => Ag x.cs) (fun (x : Int) => N x) z00h a0.since, mb (fun (x : world_word) => Ag x.cs) (fun (x : Bool) => Bo x) z00i a0.told, mb (fun (x : ByteArray) => Value.string x) (fun (x : api_Inv) => Ag x.cs) z00j a0.keys, mb (fun (x : ByteArray) => Value.string x) (fun (x : world_data) => Ag x.cs) z00k a0.digests]) (R1 := fun z2 => []) ?_ (fun z2 => ?_)
  · clear h
    refine .reg rfl <| .opp (P.mov .g0) rfl <| .opg (G.call call31 (.cons .t0 .nil) (S_world_World_is b00 a0 z00a z00b z00c z00d z00e z00f z00g z00h z00i z00j z00k _ rfl) (.cons .k0 (.cons .k0 (.cons .k0 (.cons .k0 (.cons .k0 (.cons .k0 (.cons .k0 (.cons .k0 (.cons .k0 (.cons .k0 (.cons .k0 (.cons .k0 .nil)))))))))))) .nil (fun _ _ => rfl) (fun _ _ => rfl) rfl) rfl fun _ _ => .opp (P.not .t0) rfl <| .opp (P.mov .t0) rfl <| .split .k0 (fun c4 => ?_) (fun c4 => ?_)
    · rw [if_pos c4] at hj3
      refine .gno rfl .g0 rfl rfl <| .gno rfl .g0 rfl rfl <| .gno rfl .g0 rfl rfl <| .opp (P.pickT .t0 .k) rfl <| .nil ?_
      subst hj3
      exact .stj () (.cons Mm.m0 (.cons Mm.m1 (.cons Mm.m2 .nil))) (.of (.cons .k0 (.cons .k0 (.cons .k0 (.cons .k0 (.cons .k0 (.cons .k0 (.cons .k0 (.cons .k0 (.cons .k0 (.cons .k0 (.cons .k0 (.cons .k0 .nil))))))))))))) .nil
    · rw [if_neg (ne_true_of_eq_false c4)] at hj3
      refine .gyes rfl .g0 <| .opp (P.mov .g2) rfl <| .gyes rfl .g1 <| .opg (G.call call32 (.cons .t0 (.cons .k .nil)) (S_world_within 1 2 _ rfl) .nil .nil (fun _ _ => rfl) (fun _ _ => rfl) rfl) rfl fun _ _ => .gyes rfl .g1 <| .opp (P.not .t0) rfl <| .opp (P.pickF .t1 .t0) rfl <| .nil ?_
      subst hj3
      exact .stj () (.cons Mm.m0 (.cons Mm.m1 (.cons Mm.m2 .nil))) (.of (.cons .k0 (.cons .k0 (.cons .k0 (.cons .k0 (.cons .k0 (.cons .k0 (.cons .k0 (.cons .k0 (.cons .k0 (.cons .k0 (.cons .k0 (.cons .k0 .nil))))))))))))) .nil
  · clear hj3
    refine .cond .t0 (fun c5 => ?_) (fun c5 => ?_)
    · rw [if_pos c5] at h
      refine .seq <| .reg rfl <| .opp (P.asg .k) rfl <| .nil <| .then <| .ret <| .thr ?_
      subst h
      exact .finw () (.r1 rfl (.tmp .g0)) trivial (Ls.of (.cons .k0 (.cons .k0 (.cons .k0 (.cons .k0 (.cons .k0 (.cons .k0 (.cons .k0 (.cons .k0 (.cons .k0 (.cons .k0 (.cons .k0 (.cons .k0 .nil))))))))))))) .nil
    · rw [if_neg (ne_true_of_eq_false c5)] at h
      refine .skip <| .then <| .seq <| .reg rfl <| .opp (P.mov .t0) rfl <| .opp (P.mov .t1) rfl <| .opp (P.nilc .t1) rfl <| .opp (P.fa .t0 fa_83_1 rfl) rfl <| .opp (P.iac (i := 1) .t1 rfl .t0 runUnderlying71 sizeOf30 rfl rfl) rfl <| .op (V.ld (v := z00b) .t0 .k0 (.one isAgg30 rfl)) rfl <| .opp (P.asg .t0) rfl <| .nil ?_
      refine .then <| .ret ?_
      subst h
      exact .finw () (.r1 rfl (.tmp .g0)) trivial (Ls.of (.cons .k0 (.cons .k0 (.cons .k0 (.cons .k0 (.cons .k0 (.cons .k0 (.cons .k0 (.cons .k0 (.cons .k0 (.cons .k0 (.cons .k0 (.cons .k0 .nil))))))))))))) .nil
attribute [irreducible] world_World_Side_k1
noncomputable def slices_Clone_api_Event (a0 : List api_Event) : Option ((List api_Event)) :=
  grd ((([] : List api_Event).length + a0.length) * 240 ≤ 140737488355328) <| some ((([] : List api_Event) ++ a0))
set_option maxRecDepth 20000 in
set_option maxHeartbeats 8000000 in
theorem S_slices_Clone_api_Event (v00 : Value) (a0 : List api_Event) (r : (List api_Event)) (h : slices_Clone_api_Event a0 = some r) :
    SpecF Tryz.prog 34 [v00] [] [rows 27 v00 (a0.map api_Event.cs)] (fun z : Value => True) (fun z => z) (fun z M => lst 44 27 z (r.map api_Event.cs) ::  M) (fun z M =>  M) := by
  refine .of func34 rfl ntmps34 rfl fun w0 D0 G0 => ?_
  unfold slices_Clone_api_Event at h
  refine .seq <| .reg rfl <| .op0 (OpP.toV (P.asg .k)) rfl <| .nil <| .then <| .seq <| .seq <| .reg rfl <| .opp (P.mov .g0) rfl <| .opg (G.nilr (e := 44) .t0 Mm.m0 (by kernel_rfl) rfl) rfl fun n1 hz2 => .nil <| .then ?_
  refine .cond .t0 (fun c3 => ?_) (fun c3 => ?_)
  · have hx7 : a0 = [] := by simpa using hz2 c3
    replace h : some ([] : List api_Event) = some r := by rw [hx7] at h; simpa [grd] using h
    refine .seq <| .reg rfl <| .opp (P.asg .k) rfl <| .nil <| .then <| .ret <| .thr ?_
    cases h
    exact .lnil 44 27 <| .finw nilSl (.r1 rfl (.tmp .g0)) trivial (Ls.of (.cons .k0 .nil)) .nil
  · refine .skip <| .then <| .seq <| .reg rfl <| .opg (G.bsl0 runUnderlying29 sizeOf44 rfl) rfl fun u4 _ => .opp (P.mov .t1) rfl ?_
    obtain ⟨hb6, h⟩ := grd_eq h
    refine .opg (G.app (by_ := 240) .t1 .t0 .k0 (.inl Mm.m0) runUnderlying29 runUnderlying29 sizeOf44 typeInfo44 rfl rfl zeroValue44 rfl (one_map one_44 _) (by simpa using hb6) rfl) rfl fun u5 _ => .conseq .k0 (q := lst 44 27 u5 ((([] : List api_Event) ++ a0).map api_Event.cs)) (fun _ hh => by simpa [List.map_append] using hh) <| .opp (P.asg .t0) rfl <| .nil <| .then <| .ret ?_
    cases h
    exact .finw u5 (.r1 rfl (.tmp .g0)) trivial (Ls.of (.cons .k0 .nil)) .nil
attribute [irreducible] slices_Clone_api_Event
noncomputable def chain_Chain_Events_bx (a0 : Option chain_Chain) (a1 : Int) : Option ((List api_Event)) :=
  Option.bind (chain_Chain_is_bx a0) fun r1 => if (!r1) = true then (some ([] : List api_Event)) else (Option.bind a0 fun (y5 : chain_Chain) => grd (okS y5.events.length (some (if (y5.events.length : Int) < (if 0 > a1 then 0 else a1) then (y5.events.length : Int) else if 0 > a1 then 0 else a1)) none none) <| Option.bind (slices_Clone_api_Event (slc y5.events (if (y5.events.length : Int) < (if 0 > a1 then 0 else a1) then (y5.events.length : Int) else if 0 > a1 then 0 else a1).toNat y5.events.length)) fun r13 => some r13)
set_option maxRecDepth 20000 in
set_option maxHeartbeats 8000000 in
theorem S_chain_Chain_Events_bx (v00 : Value) (a0 : Option chain_Chain) (a1 : Int) (r : (List api_Event)) (h : chain_Chain_Events_bx a0 a1 = some r) :
    SpecF Tryz.prog 12 [v00, N a1] [bx chain_Chain.bd chain_Chain.fp v00 a0] [] (fun z : Value => True) (fun z => z) (fun z M => bx chain_Chain.bd chain_Chain.fp v00 a0 :: lst 44 27 z (r.map api_Event.cs) ::  M) (fun z M =>  M) := by
  refine .of func12 rfl ntmps12 rfl fun w0 D0 G0 => ?_
  unfold chain_Chain_Events_bx at h
  refine .seq <| .reg rfl <| .op0 (OpP.toV (P.asg .k)) rfl <| .nil <| .then <| .seq <| .seq <| .reg rfl <| .opp (P.mov .g0) rfl ?_
  obtain ⟨r1, hr2, h⟩ := bnd_eq h
  refine .opg (G.call call33 (.cons .t0 .nil) (S_chain_Chain_is_bx v00 a0 r1 hr2) (.cons .k0 .nil) .nil (fun _ _ => rfl) (fun _ _ => rfl) rfl) rfl fun _ _ => .opp (P.not .t0) rfl <| .nil <| .then <| .cond .t0 (fun c3 => ?_) (fun c3 => ?_)
  · rw [if_pos c3] at h
    refine .seq <| .reg rfl <| .opp (P.asg .k) rfl <| .nil <| .then <| .ret <| .thr ?_
    cases h
    exact .lnil 44 27 <| .finw nilSl (.r1 rfl (.tmp .g0)) trivial (Ls.of (.cons .k1 (.cons .k0 .nil))) .nil
  · rw [if_neg (ne_true_of_eq_false c3)] at h
    refine .skip <| .then <| .seq ?_
    obtain ⟨y5, hy6, h⟩ := bnd_eq h
    refine .bxo .k0 hy6 (fun _ _ _ => rfl) fun ⟨b7, u8, u9, u10⟩ hz4 => ?_
    replace hz4 : v00 = pt b7 0 := hz4
    subst hz4
    refine .draw 15 (.on 0 .pu (.on 1 .pu (.on 2 .pu (.on 4 .pu (.on 5 .pu (.on 6 .pu (.on 7 .pu (.on 8 .pu (.on 3 .ld (.on 9 .ld (.on 10 .ld (.on 11 .pu (.on 12 .pu (.on 13 .go (.on 14 .go .nl))))))))))))))) follows_mixed (.thn .body) (by kernel_rfl) <| .dpu rfl (.n rfl) (P.mov .g0) rfl rfl <| .dpu rfl (.n rfl) (P.nilc .t0) rfl rfl <| .dpu rfl (.n rfl) (P.fa .t0 fa_99_2 rfl) rfl rfl <| .dpu rfl (.n rfl) (P.mov .t2) rfl rfl <| .dpu rfl (.n rfl) (P.max2 .t0 .k) rfl rfl <| .dpu rfl (.n rfl) (P.mov .t2) rfl rfl <| .dpu rfl (.n rfl) (P.nilc .t0) rfl rfl <| .dpu rfl (.n rfl) (P.fa .t0 fa_99_2 rfl) rfl rfl <| .dld rfl (.n rfl) (V.ld (v := u10) .t2 .k0 (.one isAgg29 rfl)) (fun _ h => h) rfl rfl <| .dld rfl (.n rfl) (V.ld (v := u10) .t1 .k0 (.one isAgg29 rfl)) (fun _ h => h) rfl rfl <| .dld rfl (.n rfl) (V.lnl (n := y5.events.length) .t0 .k3 map_len runUnderlying29) (fun _ h => h) rfl rfl ?_
    refine .dpu rfl (.n rfl) (P.min2 .t2 .t0) rfl rfl ?_
    obtain ⟨hb11, h⟩ := grd_eq h
    refine .slnql .k3 fun hq12 => ?_
    simp only [List.length_map] at hq12
    refine .dpu rfl (.n rfl) (P.slp (li := (some (if (y5.events.length : Int) < (if 0 > a1 then 0 else a1) then (y5.events.length : Int) else if 0 > a1 then 0 else a1))) (hj := none) (mk := none) .t1 (.some .t0) .none .none hq12 runUnderlying29 sizeOf44 (by simpa using hb11)) rfl rfl ?_
    obtain ⟨r13, hr14, h⟩ := bnd_eq h
    refine .dgo rfl (.n rfl) (G.calll call34 (.cons .t0 .nil) (S_slices_Clone_api_Event (slv u10 27 (some (if (y5.events.length : Int) < (if 0 > a1 then 0 else a1) then (y5.events.length : Int) else if 0 > a1 then 0 else a1)) none none) (slc y5.events (if (y5.events.length : Int) < (if 0 > a1 then 0 else a1) then (y5.events.length : Int) else if 0 > a1 then 0 else a1).toNat y5.events.length) r13 hr14) .nil (.imp (List.mem_append_right _ Mm.m3) (fun _ h_ => by have h2_ := rows_slv (by rw [List.length_map]; exact hb11) (lst_rows h_); rw [slc_map, List.length_map] at h2_; exact h2_) .nil) (fun _ _ => rfl) rfl) (.inr fun _ _ _ h => (h.imp (Ls.of (.cons .k1 (.cons .k1 (.cons .k1 (.cons .k1 .nil)))))).ro Rs.nil) fun u15 _ => .dgo rfl (.n rfl) (OpV.g (OpP.toV (P.asg .t0)) rfl) (.inr fun _ _ _ h => (h.imp (Ls.of (.cons .k1 (.cons .k1 (.cons .k1 (.cons .k1 .nil)))))).ro Rs.nil) fun _ _ => .dnil <| .then <| .ret ?_
    cases h
    exact .bxc chain_Chain.bd chain_Chain.fp (b7, u8, u9, u10) y5 (z := (pt b7 0)) rfl (.cons .k1 (.cons .k1 (.cons .k1 (.cons .k1 .nil)))) <| .conseq .k0 (q := bx chain_Chain.bd chain_Chain.fp (pt b7 0) a0) (fun _ h_ => by rw [hy6]; exact h_) <| .finw u15 (.r1 rfl (.tmp .g0)) trivial (Ls.of (.cons .k0 (.cons .k0 .nil))) .nil
attribute [irreducible] chain_Chain_Events_bx
noncomputable def narrowslaw24_alive  : Option (Bool) :=
  Option.bind (world_New (⟨1, 0, 0, 9000⟩ : world_Setup)) fun r1 => thn (if (decide (r1.2 ≠ 0)) = true then true else r1.1.isNone) fun (y4 : Bool) => if y4 = true then (some false) else (Option.bind (world_World_Step_bx r1.1 (⟨1, 0, 0, 0, []⟩ : api_Step)) fun r10 => Option.bind (Option.bind (world_World_Now_bx r10) fun r15 => if (decide (r15 = 1)) = true then (Option.bind (world_World_Mail_bx r10) fun r18 => if (decide ((r18.length : Int) = 0)) = true then (Option.bind r10 fun (y25 : world_World) => grd ((world_World_Side_k0 y25) ≠ 0) <| Option.bind (chain_Chain_Time_bx y25.sides.a0) fun r41 => if (decide (r41 = 1001)) = true then (grd ((world_World_Side_k1 y25) ≠ 0) <| Option.bind (chain_Chain_Events_bx y25.sides.a1 0) fun r46 => some (decide ((r46.length : Int) = 4))) else (some false)) else (some false)) else (some false)) fun (y12 : Bool) => some y12)
set_option maxRecDepth 20000 in
set_option maxHeartbeats 8000000 in
theorem S_narrowslaw24_alive  (r : Bool) (h : narrowslaw24_alive  = some r) :
    SpecF Tryz.prog 9 [] [] [] (fun z : Unit => True) (fun z => Bo r) (fun z M =>  M) (fun z M =>  M) := by
  refine .of func9 rfl ntmps9 rfl fun w0 D0 G0 => ?_
  unfold narrowslaw24_alive at h
  refine .seq <| .reg rfl <| .op0 (OpP.toV (P.asg .k)) rfl <| .nil <| .then <| .seq <| .reg rfl <| .opp (P.bld (v := Ag (world_Setup.cs ⟨1, 0, 0, 9000⟩)) (.cons .k (.cons .k .nil)) (bld_run zeroValue23 runUnderlying23 pl_23 (by kernel_rfl))) rfl ?_
  obtain ⟨r1, hr2, h⟩ := bnd_eq h
  refine .opg (G.call call18 (.cons .t0 .nil) (S_world_New (⟨1, 0, 0, 9000⟩ : world_Setup) r1 hr2) .nil .nil (fun _ _ => rfl) (fun _ _ => rfl) rfl) rfl fun u3 _ => .opp (P.mov .t0) rfl <| .opp (P.ext (v := u3) .g0 rfl) rfl <| .opp (P.ext (v := N r1.2) .t1 rfl) rfl <| .opp (P.asg .t1) rfl <| .opp (P.asg .t1) rfl <| .nil <| .then <| .seq ?_
  obtain ⟨y4, hj6, h⟩ := thn_eq h
  refine .cutx (γ := Unit) (E1 := fun z5 => [(13, Bo y4), (1, u3)]) (L1 := fun z5 => [bx world_World.bd world_World.fp u3 r1.1]) (R1 := fun z5 => []) ?_ (fun z5 => ?_)
  · clear h
    refine .reg rfl <| .opp (P.mov .t0) rfl <| .opp (P.bin .t0 .k .neq) rfl <| .opp (P.mov .t0) rfl <| .split .k0 (fun c7 => ?_) (fun c7 => ?_)
    · rw [if_pos c7] at hj6
      refine .gno rfl .g0 rfl rfl <| .gno rfl .g0 rfl rfl <| .opp (P.pickT .t0 .k) rfl <| .nil ?_
      subst hj6
      exact .stj () (.cons Mm.m0 (.cons Mm.m1 .nil)) (.of (.cons .k0 .nil)) .nil
    · rw [if_neg (ne_true_of_eq_false c7)] at hj6
      refine .gyes rfl .g0 <| .opp (P.mov .g1) rfl <| .gyes rfl .g1 <| .fact .k0 (fun _ hh => bx_nil (P := Tryz.prog) (t := 26) (e := 83) (by kernel_rfl) hh) fun hq8 => .opp (P.bin .t0 .k hq8.1) rfl <| .opp (P.pickF .t1 .t0) rfl <| .nil ?_
      subst hj6
      exact .stj () (.cons Mm.m0 (.cons Mm.m1 .nil)) (.of (.cons .k0 .nil)) .nil
  · clear hj6
    refine .cond .t0 (fun c9 => ?_) (fun c9 => ?_)
    · rw [if_pos c9] at h
      refine .seq <| .reg rfl <| .opp (P.asg .k) rfl <| .nil <| .then <| .ret <| .thr ?_
      cases h
      exact .finw () (.r1 rfl (.tmp .g0)) trivial (Ls.of .nil) .nil
    · rw [if_neg (ne_true_of_eq_false c9)] at h
      refine .skip <| .then <| .seq <| .reg rfl <| .opp (P.mov .g0) rfl <| .opp (P.bld (v := Ag (api_Step.cs ⟨1, 0, 0, 0, []⟩ nilSl)) (.cons .k .nil) (bld_run zeroValue70 runUnderlying70 pl_70 (by kernel_rfl))) rfl <| .rnil0 1 ?_
      obtain ⟨r10, hr11, h⟩ := bnd_eq h
      refine .opg (G.call call25 (.cons .t1 (.cons .t0 .nil)) (S_world_World_Step_bx u3 r1.1 (⟨1, 0, 0, 0, []⟩ : api_Step) nilSl r10 hr11) (.cons .k0 .nil) (.cons Mm.m0 .nil) (fun _ _ => rfl) (fun _ _ => rfl) rfl) rfl fun _ _ => .drop .k0 <| .nil <| .then ?_
      obtain ⟨y12, hj14, h⟩ := bnd_eq h
      refine .cutx (γ := Unit) (E1 := fun z13 => [(0, Bo y12)]) (L1 := fun z13 => []) (R1 := fun z13 => []) ?_ (fun z13 => ?_)
      · clear h
        refine .reg rfl <| .opp (P.mov .g0) rfl ?_
        obtain ⟨r15, hr16, hj14⟩ := bnd_eq hj14
        refine .opg (G.call call15 (.cons .t0 .nil) (S_world_World_Now_bx u3 r10 r15 hr16) (.cons .k0 .nil) .nil (fun _ _ => rfl) (fun _ _ => rfl) rfl) rfl fun _ _ => .opp (P.bin .t0 .k .eql) rfl <| .opp (P.mov .t0) rfl <| .split .k0 (fun c17 => ?_) (fun c17 => ?_)
        · rw [if_pos c17] at hj14
          refine .gyes rfl .g0 <| .opp (P.mov .g1) rfl <| .gyes rfl .g1 ?_
          obtain ⟨r18, hr19, hj14⟩ := bnd_eq hj14
          refine .opg (G.call call14 (.cons .t0 .nil) (S_world_World_Mail_bx u3 r10 r18 hr19) (.cons .k0 .nil) .nil (fun _ _ => rfl) (fun _ _ => rfl) rfl) rfl fun ⟨u20, w21⟩ _ => .gyes rfl .g1 <| .gzl Mm.m1 fun hz22 => .op (V.lnr (n := r18.length) .t0 Mm.m0 (zip_len hz22) runUnderlying46) rfl <| .gyes rfl .g1 <| .opp (P.bin .t0 .k .eql) rfl <| .opp (P.pickT .t1 .t0) rfl <| .opp (P.mov .t0) rfl <| .split .k0 (fun c23 => ?_) (fun c23 => ?_)
          · rw [if_pos c23] at hj14
            refine .gyes rfl .g0 <| .opp (P.mov .g1) rfl <| .gyes rfl .g1 ?_
            obtain ⟨y25, hy26, hj14⟩ := bnd_eq hj14
            refine .bxo .k0 hy26 (fun _ _ _ => rfl) fun ⟨b27, u28, u29, u30, u31, u32, u33, u34, u35, u36, u37, u38⟩ hz24 => ?_
            replace hz24 : u3 = pt b27 0 := hz24
            subst hz24
            refine .opg (G.call call11 (.cons .t0 (.cons .k .nil)) (S_world_World_Side_k0 b27 y25 u28 u29 u30 u31 u32 u33 u34 u35 u36 u37 u38 _ rfl) (.cons .k0 (.cons .k0 (.cons .k0 (.cons .k0 (.cons .k0 (.cons .k0 (.cons .k0 (.cons .k0 (.cons .k0 (.cons .k0 (.cons .k0 (.cons .k0 .nil)))))))))))) .nil (fun _ _ => rfl) (fun _ _ => rfl) rfl) rfl fun _ _ => ?_
            obtain ⟨hb40, hj14⟩ := grd_eq hj14
            refine .pkV (u := u28) .k0 (by unfold pk; rw [if_neg hb40]; rfl) <| .gyes rfl .g1 ?_
            obtain ⟨r41, hr42, hj14⟩ := bnd_eq hj14
            refine .opg (G.call call24 (.cons .t0 .nil) (S_chain_Chain_Time_bx u28 y25.sides.a0 r41 hr42) (.cons .k1 .nil) .nil (fun _ _ => rfl) (fun _ _ => rfl) rfl) rfl fun _ _ => .gyes rfl .g1 <| .opp (P.bin .t0 .k .eql) rfl <| .opp (P.pickT .t1 .t0) rfl <| .opp (P.mov .t0) rfl <| .split .k0 (fun c43 => ?_) (fun c43 => ?_)
            · rw [if_pos c43] at hj14
              refine .gyes rfl .g0 <| .opp (P.mov .t1) rfl <| .gyes rfl .g1 <| .opg (G.call call11 (.cons .t0 (.cons .k .nil)) (S_world_World_Side_k1 b27 y25 u28 u29 u30 u31 u32 u33 u34 u35 u36 u37 u38 _ rfl) (.cons .k1 (.cons .k0 (.cons .k0 (.cons .k0 (.cons .k0 (.cons .k0 (.cons .k0 (.cons .k0 (.cons .k0 (.cons .k0 (.cons .k0 (.cons .k0 .nil)))))))))))) .nil (fun _ _ => rfl) (fun _ _ => rfl) rfl) rfl fun _ _ => ?_
              obtain ⟨hb45, hj14⟩ := grd_eq hj14
              refine .pkV (u := u29) .k0 (by unfold pk; rw [if_neg hb45]; rfl) <| .gyes rfl .g1 ?_
              obtain ⟨r46, hr47, hj14⟩ := bnd_eq hj14
              refine .opg (G.call call12 (.cons .t0 (.cons .k .nil)) (S_chain_Chain_Events_bx u29 y25.sides.a1 0 r46 hr47) (.cons .k2 .nil) .nil (fun _ _ => rfl) (fun _ _ => rfl) rfl) rfl fun u48 _ => .gyes rfl .g1 <| .op (V.lnl (n := r46.length) .t0 .k1 map_len runUnderlying29) rfl <| .gyes rfl .g1 <| .opp (P.bin .t0 .k .eql) rfl <| .opp (P.pickT .t1 .t0) rfl <| .opp (P.asg .t0) rfl <| .nil ?_
              cases hj14
              exact .bxc world_World.bd world_World.fp (b27, u28, u29, u30, u31, u32, u33, u34, u35, u36, u37, u38) y25 (z := (pt b27 0)) rfl (.cons .k2 (.cons .k2 (.cons .k0 (.cons .k1 (.cons .k1 (.cons .k1 (.cons .k1 (.cons .k1 (.cons .k1 (.cons .k1 (.cons .k1 (.cons .k1 .nil)))))))))))) <| .conseq .k0 (q := bx world_World.bd world_World.fp (pt b27 0) r10) (fun _ h_ => by rw [hy26]; exact h_) <| .stj () (.cons Mm.m0 .nil) (.of .nil) .nil
            · rw [if_neg (ne_true_of_eq_false c43)] at hj14
              refine .gno rfl .g0 rfl rfl <| .gno rfl .g0 rfl rfl <| .gno rfl .g0 rfl rfl <| .gno rfl .g0 rfl rfl <| .gno rfl .g0 rfl rfl <| .opp (P.pickF .t0 .k) rfl <| .opp (P.asg .t0) rfl <| .nil ?_
              cases hj14
              exact .bxc world_World.bd world_World.fp (b27, u28, u29, u30, u31, u32, u33, u34, u35, u36, u37, u38) y25 (z := (pt b27 0)) rfl (.cons .k1 (.cons .k0 (.cons .k0 (.cons .k0 (.cons .k0 (.cons .k0 (.cons .k0 (.cons .k0 (.cons .k0 (.cons .k0 (.cons .k0 (.cons .k0 .nil)))))))))))) <| .conseq .k0 (q := bx world_World.bd world_World.fp (pt b27 0) r10) (fun _ h_ => by rw [hy26]; exact h_) <| .stj () (.cons Mm.m0 .nil) (.of .nil) .nil
          · rw [if_neg (ne_true_of_eq_false c23)] at hj14
            refine .gno rfl .g0 rfl rfl <| .gno rfl .g0 rfl rfl <| .gno rfl .g0 rfl rfl <| .gno rfl .g0 rfl rfl <| .opp (P.pickF .t0 .k) rfl <| .opp (P.mov .t0) rfl <| .gno rfl .g0 rfl rfl <| .gno rfl .g0 rfl rfl <| .gno rfl .g0 rfl rfl <| .gno rfl .g0 rfl rfl <| .gno rfl .g0 rfl rfl <| .opp (P.pickF .t0 .k) rfl ?_
            refine .opp (P.asg .t0) rfl <| .nil ?_
            cases hj14
            exact .stj () (.cons Mm.m0 .nil) (.of .nil) .nil
        · rw [if_neg (ne_true_of_eq_false c17)] at hj14
          refine .gno rfl .g0 rfl rfl <| .gno rfl .g0 rfl rfl <| .gno rfl .g0 rfl rfl <| .gno rfl .g0 rfl rfl <| .opp (P.pickF .t0 .k) rfl <| .opp (P.mov .t0) rfl <| .gno rfl .g0 rfl rfl <| .gno rfl .g0 rfl rfl <| .gno rfl .g0 rfl rfl <| .gno rfl .g0 rfl rfl <| .opp (P.pickF .t0 .k) rfl <| .opp (P.mov .t0) rfl ?_
          refine .gno rfl .g0 rfl rfl <| .gno rfl .g0 rfl rfl <| .gno rfl .g0 rfl rfl <| .gno rfl .g0 rfl rfl <| .gno rfl .g0 rfl rfl <| .opp (P.pickF .t0 .k) rfl <| .opp (P.asg .t0) rfl <| .nil ?_
          cases hj14
          exact .stj () (.cons Mm.m0 .nil) (.of .nil) .nil
      · clear hj14
        refine .ret ?_
        cases h
        exact .finw () (.r1 rfl (.tmp .g0)) trivial (Ls.of .nil) .nil
attribute [irreducible] narrowslaw24_alive
noncomputable def world_World_Side_nil_k0  : Option ((Option chain_Chain)) :=
  Option.bind (Option.bind (world_World_is_bx none) fun r4 => if (!r4) = true then (some true) else (some (!(world_within 0 2)))) fun (y1 : Bool) => if y1 = true then (some none) else none
set_option maxRecDepth 20000 in
set_option maxHeartbeats 8000000 in
theorem S_world_World_Side_nil_k0  (r : (Option chain_Chain)) (h : world_World_Side_nil_k0  = some r) :
    SpecF Tryz.prog 11 [nilp, N 0] [] [] (fun z : Value => True) (fun z => z) (fun z M => bx chain_Chain.bd chain_Chain.fp z r ::  M) (fun z M =>  M) := by
  refine .of func11 rfl ntmps11 rfl fun w0 D0 G0 => ?_
  unfold world_World_Side_nil_k0 at h
  refine .seq <| .reg rfl <| .op0 (OpP.toV (P.asg .k)) rfl <| .nil <| .then <| .seq ?_
  obtain ⟨y1, hj3, h⟩ := bnd_eq h
  refine .cutx (γ := Unit) (E1 := fun z2 => [(12, Bo y1), (0, nilp), (1, N 0)]) (L1 := fun z2 => []) (R1 := fun z2 => []) ?_ (fun z2 => ?_)
  · clear h
    refine .reg rfl <| .opp (P.mov .g0) rfl <| .bxn world_World.bd world_World.fp ?_
    obtain ⟨r4, hr5, hj3⟩ := bnd_eq hj3
    refine .opg (G.call call31 (.cons .t0 .nil) (S_world_World_is_bx nilp none r4 hr5) (.cons .k0 .nil) .nil (fun _ _ => rfl) (fun _ _ => rfl) rfl) rfl fun _ _ => .opp (P.not .t0) rfl <| .opp (P.mov .t0) rfl <| .split .k0 (fun c6 => ?_) (fun c6 => ?_)
    · rw [if_pos c6] at hj3
      refine .gno rfl .g0 rfl rfl <| .gno rfl .g0 rfl rfl <| .gno rfl .g0 rfl rfl <| .opp (P.pickT .t0 .k) rfl <| .nil ?_
      cases hj3
      exact .stj () (.cons Mm.m0 (.cons Mm.m1 (.cons Mm.m2 .nil))) (.of .nil) .nil
    · rw [if_neg (ne_true_of_eq_false c6)] at hj3
      refine .gyes rfl .g0 <| .opp (P.mov .g2) rfl <| .gyes rfl .g1 <| .opg (G.call call32 (.cons .t0 (.cons .k .nil)) (S_world_within 0 2 _ rfl) .nil .nil (fun _ _ => rfl) (fun _ _ => rfl) rfl) rfl fun _ _ => .gyes rfl .g1 <| .opp (P.not .t0) rfl <| .opp (P.pickF .t1 .t0) rfl <| .nil ?_
      cases hj3
      exact .stj () (.cons Mm.m0 (.cons Mm.m1 (.cons Mm.m2 .nil))) (.of .nil) .nil
  · clear hj3
    refine .cond .t0 (fun c7 => ?_) (fun c7 => ?_)
    · rw [if_pos c7] at h
      refine .seq <| .reg rfl <| .opp (P.asg .k) rfl <| .nil <| .then <| .ret <| .thr ?_
      cases h
      exact .bxn chain_Chain.bd chain_Chain.fp <| .finw nilp (.r1 rfl (.tmp .g0)) trivial (Ls.of (.cons .k0 .nil)) .nil
    · rw [if_neg (ne_true_of_eq_false c7)] at h
      refine .skip <| .then <| .seq <| .reg rfl <| .opp (P.mov .t0) rfl <| .opp (P.mov .t1) rfl ?_
      cases h
attribute [irreducible] world_World_Side_nil_k0
noncomputable def world_World_client_nil (a1 : Int) : Option ((Option client_Client)) :=
  thn (if (decide (a1 < 0)) = true then true else (decide (a1 ≥ 2))) fun (y1 : Bool) => if y1 = true then (some none) else none
set_option maxRecDepth 20000 in
set_option maxHeartbeats 8000000 in
theorem S_world_World_client_nil (a1 : Int) (r : (Option client_Client)) (h : world_World_client_nil a1 = some r) :
    SpecF Tryz.prog 44 [nilp, N a1] [] [] (fun z : Value => True) (fun z => z) (fun z M => bx client_Client.bd client_Client.fp z r ::  M) (fun z M =>  M) := by
  refine .of func44 rfl ntmps44 rfl fun w0 D0 G0 => ?_
  unfold world_World_client_nil at h
  refine .seq <| .reg rfl <| .op0 (OpP.toV (P.asg .k)) rfl <| .nil <| .then <| .seq ?_
  obtain ⟨y1, hj3, h⟩ := thn_eq h
  refine .cutx (γ := Unit) (E1 := fun z2 => [(10, Bo y1), (0, nilp), (1, N a1)]) (L1 := fun z2 => []) (R1 := fun z2 => []) ?_ (fun z2 => ?_)
  · clear h
    refine .reg rfl <| .opp (P.mov .g1) rfl <| .opp (P.bin .t0 .k .lss) rfl <| .opp (P.mov .t0) rfl <| .split .k0 (fun c4 => ?_) (fun c4 => ?_)
    · rw [if_pos c4] at hj3
      refine .gno rfl .g0 rfl rfl <| .gno rfl .g0 rfl rfl <| .opp (P.pickT .t0 .k) rfl <| .nil ?_
      subst hj3
      exact .stj () (.cons Mm.m0 (.cons Mm.m1 (.cons Mm.m2 .nil))) (.of .nil) .nil
    · rw [if_neg (ne_true_of_eq_false c4)] at hj3
      refine .gyes rfl .g0 <| .opp (P.mov .g2) rfl <| .gyes rfl .g1 <| .opp (P.bin .t0 .k .geq) rfl <| .opp (P.pickF .t1 .t0) rfl <| .nil ?_
      subst hj3
      exact .stj () (.cons Mm.m0 (.cons Mm.m1 (.cons Mm.m2 .nil))) (.of .nil) .nil
  · clear hj3
    refine .cond .t0 (fun c5 => ?_) (fun c5 => ?_)
    · rw [if_pos c5] at h
      refine .seq <| .reg rfl <| .opp (P.asg .k) rfl <| .nil <| .then <| .ret <| .thr ?_
      cases h
      exact .bxn client_Client.bd client_Client.fp <| .finw nilp (.r1 rfl (.tmp .g0)) trivial (Ls.of (.cons .k0 .nil)) .nil
    · rw [if_neg (ne_true_of_eq_false c5)] at h
      refine .skip <| .then <| .seq <| .reg rfl <| .opp (P.mov .t0) rfl <| .opp (P.mov .t1) rfl ?_
      cases h
attribute [irreducible] world_World_client_nil
noncomputable def world_World_Client_nil (a1 : Int) : Option ((Option client_Client)) :=
  Option.bind (world_World_is_bx none) fun r1 => if (!r1) = true then (some none) else (Option.bind (world_World_client_nil a1) fun r4 => some r4)
set_option maxRecDepth 20000 in
set_option maxHeartbeats 8000000 in
theorem S_world_World_Client_nil (a1 : Int) (r : (Option client_Client)) (h : world_World_Client_nil a1 = some r) :
    SpecF Tryz.prog 19 [nilp, N a1] [] [] (fun z : Value => True) (fun z => z) (fun z M => bx client_Client.bd client_Client.fp z r ::  M) (fun z M =>  M) := by
  refine .of func19 rfl ntmps19 rfl fun w0 D0 G0 => ?_
  unfold world_World_Client_nil at h
  refine .seq <| .reg rfl <| .op0 (OpP.toV (P.asg .k)) rfl <| .nil <| .then <| .seq <| .seq <| .reg rfl <| .opp (P.mov .g0) rfl <| .bxn world_World.bd world_World.fp ?_
  obtain ⟨r1, hr2, h⟩ := bnd_eq h
  refine .opg (G.call call31 (.cons .t0 .nil) (S_world_World_is_bx nilp none r1 hr2) (.cons .k0 .nil) .nil (fun _ _ => rfl) (fun _ _ => rfl) rfl) rfl fun _ _ => .opp (P.not .t0) rfl <| .nil <| .then <| .cond .t0 (fun c3 => ?_) (fun c3 => ?_)
  · rw [if_pos c3] at h
    refine .seq <| .reg rfl <| .opp (P.asg .k) rfl <| .nil <| .then <| .ret <| .thr ?_
    cases h
    exact .bxn client_Client.bd client_Client.fp <| .finw nilp (.r1 rfl (.tmp .g0)) trivial (Ls.of (.cons .k0 .nil)) .nil
  · rw [if_neg (ne_true_of_eq_false c3)] at h
    refine .skip <| .then <| .seq <| .reg rfl <| .opp (P.mov .t0) rfl <| .opp (P.mov .t1) rfl ?_
    obtain ⟨r4, hr5, h⟩ := bnd_eq h
    refine .opg (G.call call44 (.cons .t1 (.cons .t0 .nil)) (S_world_World_client_nil a1 r4 hr5) .nil .nil (fun _ _ => rfl) (fun _ _ => rfl) rfl) rfl fun u6 _ => .opp (P.asg .t0) rfl <| .nil <| .then <| .ret ?_
    cases h
    exact .finw u6 (.r1 rfl (.tmp .g0)) trivial (Ls.of (.cons .k0 .nil)) .nil
attribute [irreducible] world_World_Client_nil
noncomputable def world_World_router_nil (a1 : Int) : Option ((Option router_Router)) :=
  thn (if (decide (a1 < 2)) = true then true else (decide (a1 ≥ 4))) fun (y1 : Bool) => if y1 = true then (some none) else none
set_option maxRecDepth 20000 in
set_option maxHeartbeats 8000000 in
theorem S_world_World_router_nil (a1 : Int) (r : (Option router_Router)) (h : world_World_router_nil a1 = some r) :
    SpecF Tryz.prog 45 [nilp, N a1] [] [] (fun z : Value => True) (fun z => z) (fun z M => bx router_Router.bd router_Router.fp z r ::  M) (fun z M =>  M) := by
  refine .of func45 rfl ntmps45 rfl fun w0 D0 G0 => ?_
  unfold world_World_router_nil at h
  refine .seq <| .reg rfl <| .op0 (OpP.toV (P.asg .k)) rfl <| .nil <| .then <| .seq ?_
  obtain ⟨y1, hj3, h⟩ := thn_eq h
  refine .cutx (γ := Unit) (E1 := fun z2 => [(10, Bo y1), (0, nilp), (1, N a1)]) (L1 := fun z2 => []) (R1 := fun z2 => []) ?_ (fun z2 => ?_)
  · clear h
    refine .reg rfl <| .opp (P.mov .g1) rfl <| .opp (P.bin .t0 .k .lss) rfl <| .opp (P.mov .t0) rfl <| .split .k0 (fun c4 => ?_) (fun c4 => ?_)
    · rw [if_pos c4] at hj3
      refine .gno rfl .g0 rfl rfl <| .gno rfl .g0 rfl rfl <| .opp (P.pickT .t0 .k) rfl <| .nil ?_
      subst hj3
      exact .stj () (.cons Mm.m0 (.cons Mm.m1 (.cons Mm.m2 .nil))) (.of .nil) .nil
    · rw [if_neg (ne_true_of_eq_false c4)] at hj3
      refine .gyes rfl .g0 <| .opp (P.mov .g2) rfl <| .gyes rfl .g1 <| .opp (P.bin .t0 .k .geq) rfl <| .opp (P.pickF .t1 .t0) rfl <| .nil ?_
      subst hj3
      exact .stj () (.cons Mm.m0 (.cons Mm.m1 (.cons Mm.m2 .nil))) (.of .nil) .nil
  · clear hj3
    refine .cond .t0 (fun c5 => ?_) (fun c5 => ?_)
    · rw [if_pos c5] at h
      refine .seq <| .reg rfl <| .opp (P.asg .k) rfl <| .nil <| .then <| .ret <| .thr ?_
      cases h
      exact .bxn router_Router.bd router_Router.fp <| .finw nilp (.r1 rfl (.tmp .g0)) trivial (Ls.of (.cons .k0 .nil)) .nil
    · rw [if_neg (ne_true_of_eq_false c5)] at h
      refine .skip <| .then <| .seq <| .reg rfl <| .opp (P.mov .t0) rfl <| .opp (P.mov .t1) rfl <| .opp (P.bin .t0 .k .sub) rfl ?_
      cases h
attribute [irreducible] world_World_router_nil
noncomputable def world_World_Router_nil (a1 : Int) : Option ((Option router_Router)) :=
  Option.bind (world_World_is_bx none) fun r1 => if (!r1) = true then (some none) else (Option.bind (world_World_router_nil a1) fun r4 => some r4)
set_option maxRecDepth 20000 in
set_option maxHeartbeats 8000000 in
theorem S_world_World_Router_nil (a1 : Int) (r : (Option router_Router)) (h : world_World_Router_nil a1 = some r) :
    SpecF Tryz.prog 20 [nilp, N a1] [] [] (fun z : Value => True) (fun z => z) (fun z M => bx router_Router.bd router_Router.fp z r ::  M) (fun z M =>  M) := by
  refine .of func20 rfl ntmps20 rfl fun w0 D0 G0 => ?_
  unfold world_World_Router_nil at h
  refine .seq <| .reg rfl <| .op0 (OpP.toV (P.asg .k)) rfl <| .nil <| .then <| .seq <| .seq <| .reg rfl <| .opp (P.mov .g0) rfl <| .bxn world_World.bd world_World.fp ?_
  obtain ⟨r1, hr2, h⟩ := bnd_eq h
  refine .opg (G.call call31 (.cons .t0 .nil) (S_world_World_is_bx nilp none r1 hr2) (.cons .k0 .nil) .nil (fun _ _ => rfl) (fun _ _ => rfl) rfl) rfl fun _ _ => .opp (P.not .t0) rfl <| .nil <| .then <| .cond .t0 (fun c3 => ?_) (fun c3 => ?_)
  · rw [if_pos c3] at h
    refine .seq <| .reg rfl <| .opp (P.asg .k) rfl <| .nil <| .then <| .ret <| .thr ?_
    cases h
    exact .bxn router_Router.bd router_Router.fp <| .finw nilp (.r1 rfl (.tmp .g0)) trivial (Ls.of (.cons .k0 .nil)) .nil
  · rw [if_neg (ne_true_of_eq_false c3)] at h
    refine .skip <| .then <| .seq <| .reg rfl <| .opp (P.mov .t0) rfl <| .opp (P.mov .t1) rfl ?_
    obtain ⟨r4, hr5, h⟩ := bnd_eq h
    refine .opg (G.call call45 (.cons .t1 (.cons .t0 .nil)) (S_world_World_router_nil a1 r4 hr5) .nil .nil (fun _ _ => rfl) (fun _ _ => rfl) rfl) rfl fun u6 _ => .opp (P.asg .t0) rfl <| .nil <| .then <| .ret ?_
    cases h
    exact .finw u6 (.r1 rfl (.tmp .g0)) trivial (Ls.of (.cons .k0 .nil)) .nil
attribute [irreducible] world_World_Router_nil
noncomputable def world_World_Late_bx (a0 : Option world_World) (a1 : Int) : Option (Bool) :=
  Option.bind (Option.bind (world_World_is_bx a0) fun r4 => if r4 = true then (if (world_within a1 4) = true then (Option.bind a0 fun (y9 : world_World) => Option.bind (at_ (A4_bool.list y9.late) a1) fun (x23 : Bool) => some x23) else (some false)) else (some false)) fun (y1 : Bool) => some y1
set_option maxRecDepth 20000 in
set_option maxHeartbeats 8000000 in
theorem S_world_World_Late_bx (v00 : Value) (a0 : Option world_World) (a1 : Int) (r : Bool) (h : world_World_Late_bx a0 a1 = some r) :
    SpecF Tryz.prog 13 [v00, N a1] [bx world_World.bd world_World.fp v00 a0] [] (fun z : Unit => True) (fun z => Bo r) (fun z M => bx world_World.bd world_World.fp v00 a0 ::  M) (fun z M =>  M) := by
  refine .of func13 rfl ntmps13 rfl fun w0 D0 G0 => ?_
  unfold world_World_Late_bx at h
  refine .seq <| .reg rfl <| .op0 (OpP.toV (P.asg .k)) rfl <| .nil <| .then ?_
  obtain ⟨y1, hj3, h⟩ := bnd_eq h
  refine .cutx (γ := Unit) (E1 := fun z2 => [(4, Bo y1)]) (L1 := fun z2 => [bx world_World.bd world_World.fp v00 a0]) (R1 := fun z2 => []) ?_ (fun z2 => ?_)
  · clear h
    refine .reg rfl <| .opp (P.mov .g0) rfl ?_
    obtain ⟨r4, hr5, hj3⟩ := bnd_eq hj3
    refine .opg (G.call call31 (.cons .t0 .nil) (S_world_World_is_bx v00 a0 r4 hr5) (.cons .k0 .nil) .nil (fun _ _ => rfl) (fun _ _ => rfl) rfl) rfl fun _ _ => .opp (P.mov .t0) rfl <| .split .k0 (fun c6 => ?_) (fun c6 => ?_)
    · rw [if_pos c6] at hj3
      refine .gyes rfl .g0 <| .opp (P.mov .g2) rfl <| .gyes rfl .g1 <| .opg (G.call call32 (.cons .t0 (.cons .k .nil)) (S_world_within a1 4 _ rfl) .nil .nil (fun _ _ => rfl) (fun _ _ => rfl) rfl) rfl fun _ _ => .opp (P.pickT .t1 .t0) rfl <| .opp (P.mov .t0) rfl <| .split .k0 (fun c7 => ?_) (fun c7 => ?_)
      · rw [if_pos c7] at hj3
        refine .gyes rfl .g0 <| .opp (P.mov .t1) rfl <| .gyes rfl .g1 <| .opp (P.mov .t2) rfl <| .gyes rfl .g2 ?_
        obtain ⟨y9, hy10, hj3⟩ := bnd_eq hj3
        refine .bxo .k0 hy10 (fun _ _ _ => rfl) fun ⟨b11, u12, u13, u14, u15, u16, u17, u18, u19, u20, u21, u22⟩ hz8 => ?_
        replace hz8 : v00 = pt b11 0 := hz8
        subst hz8
        refine .opp (P.nilc .t1) rfl <| .gyes rfl .g2 <| .opp (P.fa .t0 fa_83_8 rfl) rfl <| .gyes rfl .g2 ?_
        obtain ⟨x23, hx24, hj3⟩ := bnd_eq hj3
        obtain ⟨i25, hi26, hx24⟩ := at_eq hx24
        have hi26_ : (a1).toNat = i25 := by rw [hi26]; rfl
        refine .opp (P.iad (i := i25) (off' := (17 + i25 * 1)) .t1 hi26 .t0 runUnderlying76 sizeOf4 (lt_of_get hx24) rfl) rfl <| .gyes rfl .g1 <| .op (V.ld (v := Bo x23) .t0 .k0 (by rcases i25 with _ | _ | _ | _ | _ <;> first | (obtain rfl := Option.some.inj hx24; exact LdV.one isAgg4 rfl) | (cases hx24; done))) rfl <| .opp (P.pickT .t1 .t0) rfl <| .opp (P.asg .t0) rfl <| .nil ?_
        cases hj3
        exact .bxc world_World.bd world_World.fp (b11, u12, u13, u14, u15, u16, u17, u18, u19, u20, u21, u22) y9 (z := (pt b11 0)) rfl (.cons .k0 (.cons .k0 (.cons .k0 (.cons .k0 (.cons .k0 (.cons .k0 (.cons .k0 (.cons .k0 (.cons .k0 (.cons .k0 (.cons .k0 (.cons .k0 .nil)))))))))))) <| .conseq .k0 (q := bx world_World.bd world_World.fp (pt b11 0) a0) (fun _ h_ => by rw [hy10]; exact h_) <| .stj () (.cons Mm.m0 .nil) (.of (.cons .k0 .nil)) .nil
      · rw [if_neg (ne_true_of_eq_false c7)] at hj3
        refine .gno rfl .g0 rfl rfl <| .gno rfl .g0 rfl rfl <| .gno rfl .g0 rfl rfl <| .gno rfl .g0 rfl rfl <| .gno rfl .g0 rfl rfl <| .gno rfl .g0 rfl rfl <| .opp (P.pickF .t0 .k) rfl <| .opp (P.asg .t0) rfl <| .nil ?_
        cases hj3
        exact .stj () (.cons Mm.m0 .nil) (.of (.cons .k0 .nil)) .nil
    · rw [if_neg (ne_true_of_eq_false c6)] at hj3
      refine .gno rfl .g0 rfl rfl <| .gno rfl .g0 rfl rfl <| .opp (P.pickF .t0 .k) rfl <| .opp (P.mov .t0) rfl <| .gno rfl .g0 rfl rfl <| .gno rfl .g0 rfl rfl <| .gno rfl .g0 rfl rfl <| .gno rfl .g0 rfl rfl <| .gno rfl .g0 rfl rfl <| .gno rfl .g0 rfl rfl <| .opp (P.pickF .t0 .k) rfl <| .opp (P.asg .t0) rfl ?_
      refine .nil ?_
      cases hj3
      exact .stj () (.cons Mm.m0 .nil) (.of (.cons .k0 .nil)) .nil
  · clear hj3
    refine .ret ?_
    cases h
    exact .finw () (.r1 rfl (.tmp .g0)) trivial (Ls.of (.cons .k0 .nil)) .nil
attribute [irreducible] world_World_Late_bx
end Go.Sl
