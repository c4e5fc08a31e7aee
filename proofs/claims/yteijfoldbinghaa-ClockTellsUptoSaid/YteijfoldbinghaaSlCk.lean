/- Walked code of the program, its pure functions and their contracts. -/
import Derived.Test.YteijfoldbinghaaProg
import Derived.Test.YteijfoldbinghaaSlConv
set_option linter.unusedVariables false
set_option linter.unusedSimpArgs false
namespace Go.Sl
open Go.Proofs Go.Proofs.Try
theorem follows_mixed : Try.prog.follows .mixedOrders = true := by kernel_rfl
structure api_Wide where
  a0 : UInt64
  a1 : UInt64
  a2 : UInt64
  a3 : UInt64
  deriving DecidableEq
def api_Wide.cs (x : api_Wide) : List Value := [U x.a0, U x.a1, U x.a2, U x.a3]
def api_Wide.list (x : api_Wide) : List UInt64 := [x.a0, x.a1, x.a2, x.a3]
def api_Wide.set (x : api_Wide) (k : Nat) (v : UInt64) : api_Wide := ⟨if k = 0 then v else x.a0, if k = 1 then v else x.a1, if k = 2 then v else x.a2, if k = 3 then v else x.a3⟩
def api_Wide.z : api_Wide := ⟨0, 0, 0, 0⟩
structure api_Inv where
  User : Int
  Root : ByteArray
  Router : Int
  Send : Int
  Recv : Int
  To : Int
  Id : ByteArray
  deriving DecidableEq
def api_Inv.cs (x : api_Inv) : List Value := [N x.User, .string x.Root, N x.Router, N x.Send, N x.Recv, N x.To, .string x.Id]
def api_Inv.z : api_Inv := ⟨0, ⟨#[]⟩, 0, 0, 0, 0, ⟨#[]⟩⟩
structure api_Var where
  Amount : api_Wide
  Expiry : Int
  deriving DecidableEq
def api_Var.cs (x : api_Var) : List Value := [U x.Amount.a0, U x.Amount.a1, U x.Amount.a2, U x.Amount.a3, N x.Expiry]
def api_Var.z : api_Var := ⟨api_Wide.z, 0⟩
structure api_Tx where
  From : Int
  Nonce : Int
  Kind : Int
  Asset : Int
  Amount : api_Wide
  Inv : api_Inv
  Var : api_Var
  Fee : api_Wide
  Sig : ByteArray
  deriving DecidableEq
def api_Tx.cs (x : api_Tx) : List Value := [N x.From, N x.Nonce, N x.Kind, N x.Asset, U x.Amount.a0, U x.Amount.a1, U x.Amount.a2, U x.Amount.a3, N x.Inv.User, .string x.Inv.Root, N x.Inv.Router, N x.Inv.Send, N x.Inv.Recv, N x.Inv.To, .string x.Inv.Id, U x.Var.Amount.a0, U x.Var.Amount.a1, U x.Var.Amount.a2, U x.Var.Amount.a3, N x.Var.Expiry, U x.Fee.a0, U x.Fee.a1, U x.Fee.a2, U x.Fee.a3, .string x.Sig]
def api_Tx.z : api_Tx := ⟨0, 0, 0, 0, api_Wide.z, api_Inv.z, api_Var.z, api_Wide.z, ⟨#[]⟩⟩
structure api_Event where
  Time : Int
  Code : Int
  Tx : api_Tx
  deriving DecidableEq
def api_Event.cs (x : api_Event) : List Value := [N x.Time, N x.Code, N x.Tx.From, N x.Tx.Nonce, N x.Tx.Kind, N x.Tx.Asset, U x.Tx.Amount.a0, U x.Tx.Amount.a1, U x.Tx.Amount.a2, U x.Tx.Amount.a3, N x.Tx.Inv.User, .string x.Tx.Inv.Root, N x.Tx.Inv.Router, N x.Tx.Inv.Send, N x.Tx.Inv.Recv, N x.Tx.Inv.To, .string x.Tx.Inv.Id, U x.Tx.Var.Amount.a0, U x.Tx.Var.Amount.a1, U x.Tx.Var.Amount.a2, U x.Tx.Var.Amount.a3, N x.Tx.Var.Expiry, U x.Tx.Fee.a0, U x.Tx.Fee.a1, U x.Tx.Fee.a2, U x.Tx.Fee.a3, .string x.Tx.Sig]
def api_Event.z : api_Event := ⟨0, 0, api_Tx.z⟩
structure clock_Stamp where
  Tick : Int
  Side : Int
  Event : api_Event
  deriving DecidableEq
def clock_Stamp.cs (x : clock_Stamp) : List Value := [N x.Tick, N x.Side, N x.Event.Time, N x.Event.Code, N x.Event.Tx.From, N x.Event.Tx.Nonce, N x.Event.Tx.Kind, N x.Event.Tx.Asset, U x.Event.Tx.Amount.a0, U x.Event.Tx.Amount.a1, U x.Event.Tx.Amount.a2, U x.Event.Tx.Amount.a3, N x.Event.Tx.Inv.User, .string x.Event.Tx.Inv.Root, N x.Event.Tx.Inv.Router, N x.Event.Tx.Inv.Send, N x.Event.Tx.Inv.Recv, N x.Event.Tx.Inv.To, .string x.Event.Tx.Inv.Id, U x.Event.Tx.Var.Amount.a0, U x.Event.Tx.Var.Amount.a1, U x.Event.Tx.Var.Amount.a2, U x.Event.Tx.Var.Amount.a3, N x.Event.Tx.Var.Expiry, U x.Event.Tx.Fee.a0, U x.Event.Tx.Fee.a1, U x.Event.Tx.Fee.a2, U x.Event.Tx.Fee.a3, .string x.Event.Tx.Sig]
def clock_Stamp.z : clock_Stamp := ⟨0, 0, api_Event.z⟩
theorem fa_38_0 : FaV Try.prog 38 0 0 := .mk runUnderlying38 rfl sizeOf3 rfl rfl
theorem fa_72_0 : FaV Try.prog 72 0 0 := .mk runUnderlying72 rfl sizeOf3 rfl rfl
theorem pl_72 : ∀ w, ((#[{ name := "Tick", type := 3, offset := 0, embedded := false, tag := "", pkgPath := "", byteOffset := 0 }, { name := "Side", type := 3, offset := 1, embedded := false, tag := "", pkgPath := "", byteOffset := 8 }, { name := "Event", type := 38, offset := 2, embedded := false, tag := "", pkgPath := "", byteOffset := 16 }] : Array Field).mapM fun f => do pure (f.offset, ← sizeOf f.type) : Sem (Array (Nat × Nat))).run Try.prog w = .ok #[(0, 1), (1, 1), (2, 27)] w := fun w => by simp [sizeOf3, sizeOf38]
theorem one_72 (x : clock_Stamp) : oneAll (clock_Stamp.cs x) = true := rfl
noncomputable def cmp_isNaN_i130 (a0 : Int) : Bool :=
  decide (a0 ≠ a0)
set_option maxRecDepth 20000 in
set_option maxHeartbeats 1000000 in
theorem S_cmp_isNaN_i130 (a0 : Int) (r : Bool) (h : cmp_isNaN_i130 a0 = r) :
    SpecF Try.prog 130 [N a0] [] [] (fun _ : Unit => True) (fun z => Bo r) (fun z M =>  M) (fun z M =>  M) := by
  refine .of func130 rfl ntmps130 rfl fun w0 D0 G0 => ?_
  unfold cmp_isNaN_i130 at h
  refine .seq ?_
  refine .reg rfl ?_
  refine .op0 (OpP.toV (P.asg .k)) rfl ?_
  refine .nil ?_
  refine .then ?_
  refine .seq ?_
  refine .reg rfl ?_
  refine .opp (P.mov .g0) rfl ?_
  refine .opp (P.mov .t1) rfl ?_
  refine .opp (P.bin .t1 .t0 .neq) rfl ?_
  refine .opp (P.asg .t0) rfl ?_
  refine .nil ?_
  refine .then ?_
  refine .ret ?_
  subst h
  exact .finw () (.r1 rfl (.tmp .g0)) trivial (Ls.of .nil) .nil
attribute [irreducible] cmp_isNaN_i130
noncomputable def cmp_Compare_i79 (a0 : Int) (a1 : Int) : Int :=
  if ((cmp_isNaN_i130 a0)) = true then (if ((cmp_isNaN_i130 a1)) = true then 0 else (-1)) else (if ((cmp_isNaN_i130 a1)) = true then 1 else (if (decide (a0 < a1)) = true then (-1) else (if (decide (a0 > a1)) = true then 1 else 0)))
set_option maxRecDepth 20000 in
set_option maxHeartbeats 1000000 in
theorem S_cmp_Compare_i79 (a0 : Int) (a1 : Int) (r : Int) (h : cmp_Compare_i79 a0 a1 = r) :
    SpecF Try.prog 79 [N a0, N a1] [] [] (fun _ : Unit => True) (fun z => N r) (fun z M =>  M) (fun z M =>  M) := by
  refine .of func79 rfl ntmps79 rfl fun w0 D0 G0 => ?_
  unfold cmp_Compare_i79 at h
  refine .seq ?_
  refine .reg rfl ?_
  refine .op0 (OpP.toV (P.asg .k)) rfl ?_
  refine .nil ?_
  refine .then ?_
  refine .seq ?_
  refine .reg rfl ?_
  refine .opp (P.mov .g0) rfl ?_
  refine .opg (G.call call130 (.cons .t0 .nil) (S_cmp_isNaN_i130 a0 _ rfl) .nil .nil (fun _ _ => rfl) (fun _ _ => rfl) rfl) rfl fun _ _ => ?_
  refine .opp (P.asg .t0) rfl ?_
  refine .nil ?_
  refine .then ?_
  refine .seq ?_
  refine .reg rfl ?_
  refine .opp (P.mov .g2) rfl ?_
  refine .opg (G.call call130 (.cons .t0 .nil) (S_cmp_isNaN_i130 a1 _ rfl) .nil .nil (fun _ _ => rfl) (fun _ _ => rfl) rfl) rfl fun _ _ => ?_
  refine .opp (P.asg .t0) rfl ?_
  refine .nil ?_
  refine .then ?_
  refine .seq ?_
  refine .seq ?_
  refine .reg rfl ?_
  refine .opp (P.mov .t1) rfl ?_
  refine .nil ?_
  refine .then ?_
  refine .cond .t0 (fun c1 => ?_) (fun c1 => ?_)
  · rw [if_pos c1] at h
    refine .seq ?_
    refine .seq ?_
    refine .reg rfl ?_
    refine .opp (P.mov .t0) rfl ?_
    refine .nil ?_
    refine .then ?_
    refine .cond .t0 (fun c2 => ?_) (fun c2 => ?_)
    · rw [if_pos c2] at h
      refine .seq ?_
      refine .reg rfl ?_
      refine .opp (P.asg .k) rfl ?_
      refine .nil ?_
      refine .then ?_
      refine .ret ?_
      refine .thr ?_
      refine .thr ?_
      subst h
      exact .finw () (.r1 rfl (.tmp .g0)) trivial (Ls.of .nil) .nil
    · rw [if_neg (ne_true_of_eq_false c2)] at h
      refine .skip ?_
      refine .then ?_
      refine .seq ?_
      refine .reg rfl ?_
      refine .opp (P.asg .k) rfl ?_
      refine .nil ?_
      refine .then ?_
      refine .ret ?_
      refine .thr ?_
      subst h
      exact .finw () (.r1 rfl (.tmp .g0)) trivial (Ls.of .nil) .nil
  · rw [if_neg (ne_true_of_eq_false c1)] at h
    refine .skip ?_
    refine .then ?_
    refine .seq ?_
    refine .seq ?_
    refine .reg rfl ?_
    refine .opp (P.mov .t0) rfl ?_
    refine .nil ?_
    refine .then ?_
    refine .cond .t0 (fun c3 => ?_) (fun c3 => ?_)
    · rw [if_pos c3] at h
      refine .seq ?_
      refine .reg rfl ?_
      refine .opp (P.asg .k) rfl ?_
      refine .nil ?_
      refine .then ?_
      refine .ret ?_
      refine .thr ?_
      subst h
      exact .finw () (.r1 rfl (.tmp .g0)) trivial (Ls.of .nil) .nil
    · rw [if_neg (ne_true_of_eq_false c3)] at h
      refine .skip ?_
      refine .then ?_
      refine .seq ?_
      refine .seq ?_
      refine .reg rfl ?_
      refine .opp (P.mov .g0) rfl ?_
      refine .opp (P.mov .g2) rfl ?_
      refine .opp (P.bin .t1 .t0 .lss) rfl ?_
      refine .nil ?_
      refine .then ?_
      refine .cond .t0 (fun c4 => ?_) (fun c4 => ?_)
      · rw [if_pos c4] at h
        refine .seq ?_
        refine .reg rfl ?_
        refine .opp (P.asg .k) rfl ?_
        refine .nil ?_
        refine .then ?_
        refine .ret ?_
        refine .thr ?_
        subst h
        exact .finw () (.r1 rfl (.tmp .g0)) trivial (Ls.of .nil) .nil
      · rw [if_neg (ne_true_of_eq_false c4)] at h
        refine .skip ?_
        refine .then ?_
        refine .seq ?_
        refine .seq ?_
        refine .reg rfl ?_
        refine .opp (P.mov .t0) rfl ?_
        refine .opp (P.mov .t1) rfl ?_
        refine .opp (P.bin .t1 .t0 .gtr) rfl ?_
        refine .nil ?_
        refine .then ?_
        refine .cond .t0 (fun c5 => ?_) (fun c5 => ?_)
        · rw [if_pos c5] at h
          refine .seq ?_
          refine .reg rfl ?_
          refine .opp (P.asg .k) rfl ?_
          refine .nil ?_
          refine .then ?_
          refine .ret ?_
          refine .thr ?_
          subst h
          exact .finw () (.r1 rfl (.tmp .g0)) trivial (Ls.of .nil) .nil
        · rw [if_neg (ne_true_of_eq_false c5)] at h
          refine .skip ?_
          refine .then ?_
          refine .seq ?_
          refine .reg rfl ?_
          refine .opp (P.asg .k) rfl ?_
          refine .nil ?_
          refine .then ?_
          refine .ret ?_
          subst h
          exact .finw () (.r1 rfl (.tmp .g0)) trivial (Ls.of .nil) .nil
attribute [irreducible] cmp_Compare_i79
noncomputable def clock_Merge_1 (a0 : clock_Stamp) (a1 : clock_Stamp) : Int :=
  (cmp_Compare_i79 a0.Tick a1.Tick)
set_option maxRecDepth 20000 in
set_option maxHeartbeats 1000000 in
theorem S_clock_Merge_1 (a0 : clock_Stamp) (a1 : clock_Stamp) (r : Int) (h : clock_Merge_1 a0 a1 = r) :
    SpecF Try.prog 78 [Ag (clock_Stamp.cs a0), Ag (clock_Stamp.cs a1)] [] [] (fun _ : Unit => True) (fun z => N r) (fun z M =>  M) (fun z M =>  M) := by
  refine .of func78 rfl ntmps78 rfl fun w0 D0 G0 => ?_
  unfold clock_Merge_1 at h
  refine .seq ?_
  refine .reg rfl ?_
  refine .opx (X.box (cs := (clock_Stamp.cs a0)) .t0 rfl) rfl fun b1 => ?_
  refine .opx (X.box (cs := (clock_Stamp.cs a1)) .t1 rfl) rfl fun b2 => ?_
  refine .op0 (OpP.toV (P.asg .k)) rfl ?_
  refine .nil ?_
  refine .then ?_
  refine .seq ?_
  refine .reg rfl ?_
  refine .opp (P.fa .t1 fa_72_0 rfl) rfl ?_
  refine .op (V.ld (v := N a0.Tick) .t0 .k1 (.one isAgg3 rfl)) rfl ?_
  refine .opp (P.fa .t1 fa_72_0 rfl) rfl ?_
  refine .op (V.ld (v := N a1.Tick) .t0 .k0 (.one isAgg3 rfl)) rfl ?_
  refine .opg (G.call call79 (.cons .t1 (.cons .t0 .nil)) (S_cmp_Compare_i79 a0.Tick a1.Tick _ rfl) .nil .nil (fun _ _ => rfl) (fun _ _ => rfl) rfl) rfl fun _ _ => ?_
  refine .opp (P.asg .t0) rfl ?_
  refine .nil ?_
  refine .then ?_
  refine .ret ?_
  subst h
  exact .finw () (.r1 rfl (.tmp .g0)) trivial (Ls.of .nil) .nil
attribute [irreducible] clock_Merge_1
noncomputable def clock_Ticks (a0 : Int) (a1 : Int) (a2 : Int) : Int :=
  thn (if (decide (a1 = 1)) = true then (IntKind.i64.wrap ((IntKind.i64.wrap ((if 1099511627776 < if 0 > a0 then 0 else a0 then 1099511627776 else if 0 > a0 then 0 else a0) - 1000)) - (if 100 < if (-100) > a2 then (-100) else a2 then 100 else if (-100) > a2 then (-100) else a2))) else (IntKind.i64.wrap ((if 1099511627776 < if 0 > a0 then 0 else a0 then 1099511627776 else if 0 > a0 then 0 else a0) - 1000))) fun (y1 : Int) => y1
set_option maxRecDepth 20000 in
set_option maxHeartbeats 1000000 in
theorem S_clock_Ticks (a0 : Int) (a1 : Int) (a2 : Int) (r : Int) (h : clock_Ticks a0 a1 a2 = r) :
    SpecF Try.prog 32 [N a0, N a1, N a2] [] [] (fun _ : Unit => True) (fun z => N r) (fun z M =>  M) (fun z M =>  M) := by
  refine .of func32 rfl ntmps32 rfl fun w0 D0 G0 => ?_
  unfold clock_Ticks at h
  refine .seq ?_
  refine .reg rfl ?_
  refine .op0 (OpP.toV (P.asg .k)) rfl ?_
  refine .nil ?_
  refine .then ?_
  refine .seq ?_
  refine .reg rfl ?_
  refine .opp (P.mov .t0) rfl ?_
  refine .opp (P.max2 .t0 .k) rfl ?_
  refine .opp (P.min2 .t0 .k) rfl ?_
  refine .opp (P.bin .t0 .k .sub) rfl ?_
  refine .opp (P.asg .t0) rfl ?_
  refine .nil ?_
  refine .then ?_
  obtain ⟨y1, hj3, h⟩ := thn_eq h
  refine .cutx (γ := Unit) (E1 := fun z2 => [(7, N y1)]) (L1 := fun z2 => []) (R1 := fun z2 => []) ?_ (fun z2 => ?_)
  · clear h
    refine .seq ?_
    refine .reg rfl ?_
    refine .opp (P.mov .t1) rfl ?_
    refine .opp (P.bin .t0 .k .eql) rfl ?_
    refine .nil ?_
    refine .then ?_
    refine .cond .t0 (fun c4 => ?_) (fun c4 => ?_)
    · rw [if_pos c4] at hj3
      refine .reg rfl ?_
      refine .opp (P.mov .g0) rfl ?_
      refine .opp (P.mov .t2) rfl ?_
      refine .opp (P.max2 .t0 .k) rfl ?_
      refine .opp (P.min2 .t0 .k) rfl ?_
      refine .opp (P.bin .t1 .t0 .sub) rfl ?_
      refine .drop .k1 ?_
      refine .opp (P.asg .t0) rfl ?_
      refine .nil ?_
      subst hj3
      exact .stj () (.cons Mm.m0 .nil) (.of .nil) .nil
    · rw [if_neg (ne_true_of_eq_false c4)] at hj3
      refine .skip ?_
      subst hj3
      exact .stj () (.cons Mm.m0 .nil) (.of .nil) .nil
  · clear hj3
    refine .seq ?_
    refine .reg rfl ?_
    refine .opp (P.mov .t0) rfl ?_
    refine .opp (P.asg .t0) rfl ?_
    refine .nil ?_
    refine .then ?_
    refine .ret ?_
    subst h
    exact .finw () (.r1 rfl (.tmp .g0)) trivial (Ls.of .nil) .nil
attribute [irreducible] clock_Ticks
noncomputable def clock_stamps (a0 : List api_Event) (a1 : Int) (a2 : Int) : Option ((List clock_Stamp)) :=
  Option.bind (loopR (fun (i1 : Nat) (e4 : api_Event) (s2 : (List clock_Stamp)) => grd ((s2.length + ([⟨(clock_Ticks e4.Time a1 a2), a1, e4⟩] : List clock_Stamp).length) * 256 ≤ 140737488355328) <| some (.nx ((s2 ++ ([⟨(clock_Ticks e4.Time a1 a2), a1, e4⟩] : List clock_Stamp))))) 0 a0 ([])) fun o5 => Lo.on o5 fun (s2 : (List clock_Stamp)) => some s2
set_option maxRecDepth 20000 in
set_option maxHeartbeats 1000000 in
theorem S_clock_stamps (v00 : Value) (a0 : List api_Event) (a1 : Int) (a2 : Int) (r : (List clock_Stamp)) (h : clock_stamps a0 a1 a2 = some r) :
    SpecF Try.prog 76 [v00, N a1, N a2] [] [rows 27 v00 (a0.map api_Event.cs)] (fun _ : Value => True) (fun z => z) (fun z M => lst 72 29 z (r.map clock_Stamp.cs) ::  M) (fun z M =>  M) := by
  refine .of func76 rfl ntmps76 rfl fun w0 D0 G0 => ?_
  unfold clock_stamps at h
  refine .seq ?_
  refine .reg rfl ?_
  refine .op0 (OpP.toV (P.asg .k)) rfl ?_
  refine .nil ?_
  refine .then ?_
  refine .seq ?_
  refine .reg rfl ?_
  refine .opp (P.asg .k) rfl ?_
  refine .nil ?_
  refine .then ?_
  refine .seq ?_
  refine .seq ?_
  refine .reg rfl ?_
  refine .opp (P.mov .t1) rfl ?_
  refine .op (V.lnr (n := a0.length) .g0 Mm.m0 map_len runUnderlying22) rfl ?_
  refine .opp (P.mov .k) rfl ?_
  refine .nil ?_
  refine .then ?_
  refine .block ?_
  refine .lnil 72 29 ?_
  obtain ⟨o5, ho6, h⟩ := bnd_eq h
  refine .lenq Mm.m0 fun hl12 => ?_
  rw [map_len] at hl12
  refine .loopR (γ := Value) (fun i1 (s2 : (List clock_Stamp)) z3 => [(12, N ((i1 : Int))), (11, N ((a0.length : Int))), (10, v00), (7, z3), (1, N a1), (2, N a2)]) (fun (s2 : (List clock_Stamp)) z3 => [lst 72 29 z3 (s2.map clock_Stamp.cs)]) (fun (s2 : (List clock_Stamp)) z3 => [rows 27 v00 (a0.map api_Event.cs)]) nilSl ho6 (.cons Mm.m0 (.cons Mm.m1 (.cons Mm.m2 (.cons Mm.m3 (.cons Mm.m4 (.cons Mm.m5 .nil)))))) (.of (.cons .k0 .nil)) (.cons Mm.m0 .nil) (fun i1 s2 z3 hi13 hr9 => ?_)
  refine .seq ?_
  refine .reg rfl ?_
  refine .opp (P.bin (v := Bo (decide ((i1 : Int) < (a0.length : Nat)))) .g0 .g1 .lss) rfl ?_
  refine .nil ?_
  refine .then ?_
  refine .seq ?_
  refine .cond .t0 (fun c14 => ?_) (fun c14 => ?_)
  · obtain ⟨e4, hx11⟩ := get_of c14
    obtain ⟨ct10, hc7, hn8⟩ := loopR_at hx11 hr9
    refine .skip ?_
    refine .then ?_
    refine .seq ?_
    refine .block ?_
    refine .seq ?_
    refine .reg rfl ?_
    refine .ixq Mm.m0 (map_get hx11) fun p15 q16 hq17 => ?_
    refine .opp (P.ixi (i := i1) .g0 rfl .g2 hq17 runUnderlying22 sizeOf38) rfl ?_
    refine .op (V.ldx0 (u := Ag (api_Event.cs e4)) .t0 hq17 Mm.m0 (map_get hx11) (.agg isAgg38 sizeOf38 rfl rfl)) rfl ?_
    refine .opx (X.alc (cs := (api_Event.cs ⟨0, 0, ⟨0, 0, 0, 0, ⟨0, 0, 0, 0⟩, ⟨0, ⟨#[]⟩, 0, 0, 0, 0, ⟨#[]⟩⟩, ⟨⟨0, 0, 0, 0⟩, 0⟩, ⟨0, 0, 0, 0⟩, ⟨#[]⟩⟩⟩)) zeroValue38 rfl) rfl fun b18 => ?_
    refine .opg (G.str .t1 .g0 .k0 (.mk (cs' := (api_Event.cs e4)) sizeOf38 rfl rfl rfl rfl)) rfl fun _ _ => ?_
    refine .nil ?_
    refine .then ?_
    refine .drawl [blk b18 38 (api_Event.cs e4)] [rows 27 v00 (a0.map api_Event.cs)] (Ls.of (.cons .k0 .nil)) (Rs.cons Mm.m0 Rs.nil) 12 (.on 0 .pu (.on 1 .pu (.on 3 .pu (.on 4 .pu (.on 6 .pu (.on 2 .ld (.on 7 .ld (.on 5 .go (.on 8 .pu (.on 9 .go (.on 10 .go (.on 11 .go .nl)))))))))))) follows_mixed (.inb (.thn (.thn (.inb (.thn .body))))) (by kernel_rfl) ?_
    refine .dpu rfl (.n rfl) (P.mov .g4) rfl rfl ?_
    refine .dpu rfl (.n rfl) (P.fa .g1 fa_38_0 rfl) rfl rfl ?_
    refine .dpu rfl (.n rfl) (P.mov .g7) rfl rfl ?_
    refine .dpu rfl (.n rfl) (P.mov .g9) rfl rfl ?_
    refine .dpu rfl (.n rfl) (P.mov .g9) rfl rfl ?_
    refine .dld rfl (.n rfl) (V.ld (v := N e4.Time) .t3 .k0 (.one isAgg3 rfl)) (fun _ h => (h.imp (Ls.of (.cons .k0 .nil))).ro (Rs.cons Mm.m0 Rs.nil)) rfl rfl ?_
    refine .dld rfl (.n rfl) (V.ld (v := Ag (api_Event.cs e4)) .t5 .k0 (.agg isAgg38 sizeOf38 rfl rfl)) (fun _ h => (h.imp (Ls.of (.cons .k0 .nil))).ro (Rs.cons Mm.m0 Rs.nil)) rfl rfl ?_
    refine .dgo rfl (.n rfl) (G.call call32 (.cons .t1 (.cons .t3 (.cons .t2 .nil))) (S_clock_Ticks e4.Time a1 a2 _ rfl) .nil .nil (fun _ _ => rfl) (fun _ _ => rfl) rfl) (.inr fun _ _ _ h => (h.imp (Ls.of (.cons .k0 .nil))).ro (Rs.cons Mm.m0 Rs.nil)) fun _ _ => ?_
    refine .dpu rfl (.n rfl) (P.bld (v := Ag (clock_Stamp.cs ⟨(clock_Ticks e4.Time a1 a2), a1, e4⟩)) (.cons .t0 (.cons .t1 (.cons .t0 .nil))) (bld_run zeroValue72 runUnderlying72 pl_72 (by kernel_rfl))) rfl rfl ?_
    refine .dgo rfl (.n rfl) (G.bsl (cs := (clock_Stamp.cs ⟨(clock_Ticks e4.Time a1 a2), a1, e4⟩)) .t0 runUnderlying68 sizeOf72 zeroValue72 rfl rfl rfl rfl rfl) (.inr fun _ _ _ h => (h.imp (Ls.of (.cons .k1 .nil))).ro (Rs.cons Mm.m0 Rs.nil)) fun u19 _ => ?_
    obtain ⟨hb21, hc7⟩ := grd_eq hc7
    refine .dgo rfl (.n rfl) (G.app (by_ := 256) .t1 .t0 .k2 (.inr (.inr ⟨_, Mm.m0⟩)) runUnderlying68 runUnderlying68 sizeOf72 typeInfo72 rfl rfl zeroValue72 rfl rfl (by simpa using hb21) rfl) (.inr fun _ _ _ h => (h.imp (Ls.of (.cons .k2 .nil))).ro (Rs.cons Mm.m0 Rs.nil)) fun u20 _ => ?_
    refine .conseq .k0 (q := lst 72 29 u20 (((s2 ++ ([⟨(clock_Ticks e4.Time a1 a2), a1, e4⟩] : List clock_Stamp))).map clock_Stamp.cs)) (fun _ hh => by simpa [List.map_append] using hh) ?_
    refine .drop .k4 ?_
    refine .dgo rfl (.n rfl) (OpV.g (OpP.toV (P.asg .t0)) rfl) (.inr fun _ _ _ h => (h.imp (Ls.of (.cons .k2 .nil))).ro (Rs.cons Mm.m0 Rs.nil)) fun _ _ => ?_
    refine .dnil ?_
    refine .inn ?_
    refine .then ?_
    refine .reg rfl ?_
    refine .opp (P.bin .g1 .k (.addc (inc_ok (lt_of_get hx11) hl12))) rfl ?_
    refine .drop .k2 ?_
    refine .opp (P.mov .t0) rfl ?_
    refine .nil ?_
    cases hc7
    exact .rdR ((s2 ++ ([⟨(clock_Ticks e4.Time a1 a2), a1, e4⟩] : List clock_Stamp))) u20 hn8 (lt_of_get hx11) (.cons Mm.m0 (.cons Mm.m2 (.cons Mm.m3 (.cons Mm.m1 (.cons Mm.m4 (.cons Mm.m5 .nil)))))) (.of (.cons .k0 .nil)) (.cons Mm.m0 .nil)
  · obtain rfl := loopR_end (le_of_not c14) hr9
    have h := dn_on h
    refine .exit ?_
    refine .thx ?_
    refine .thx ?_
    refine .inb ?_
    refine .then ?_
    refine .seq ?_
    refine .reg rfl ?_
    refine .opp (P.mov .t3) rfl ?_
    refine .opp (P.asg .t0) rfl ?_
    refine .nil ?_
    refine .then ?_
    refine .ret ?_
    cases h
    exact .finw z3 (.r1 rfl (.tmp .g0)) trivial (Ls.of (.cons .k0 .nil)) .nil
attribute [irreducible] clock_stamps
noncomputable def slices_Grow_i128_nil (a1 : Int) : Option ((List clock_Stamp)) :=
  if (decide (a1 < 0)) = true then none else (Option.bind (if (decide ((IntKind.i64.wrap (a1 - 0)) > 0)) = true then (grd (0 ≤ (IntKind.i64.wrap (a1 - 0)) ∧ (IntKind.i64.wrap (a1 - 0)) * 256 ≤ 70368744177664) <| some ()) else (some ())) fun (y2 : Unit) => some ([] : List clock_Stamp))
set_option maxRecDepth 20000 in
set_option maxHeartbeats 1000000 in
theorem S_slices_Grow_i128_nil (a1 : Int) (r : (List clock_Stamp)) (h : slices_Grow_i128_nil a1 = some r) :
    SpecF Try.prog 128 [nilSl, N a1] [] [] (fun _ : Value => True) (fun z => z) (fun z M => lst 72 29 z (r.map clock_Stamp.cs) ::  M) (fun z M =>  M) := by
  refine .of func128 rfl ntmps128 rfl fun w0 D0 G0 => ?_
  unfold slices_Grow_i128_nil at h
  refine .seq ?_
  refine .reg rfl ?_
  refine .op0 (OpP.toV (P.asg .k)) rfl ?_
  refine .nil ?_
  refine .then ?_
  refine .seq ?_
  refine .seq ?_
  refine .reg rfl ?_
  refine .opp (P.mov .g1) rfl ?_
  refine .opp (P.bin .t0 .k .lss) rfl ?_
  refine .nil ?_
  refine .then ?_
  refine .cond .t0 (fun c1 => ?_) (fun c1 => ?_)
  · rw [if_pos c1] at h
    refine .reg rfl ?_
    cases h
  · rw [if_neg (ne_true_of_eq_false c1)] at h
    refine .skip ?_
    refine .then ?_
    obtain ⟨y2, hj4, h⟩ := bnd_eq h
    refine .cutx (γ := Value) (E1 := fun z3 => [(0, z3)]) (L1 := fun z3 => [lst 72 29 z3 []]) (R1 := fun z3 => []) ?_ (fun z3 => ?_)
    · clear h
      refine .seq ?_
      refine .reg rfl ?_
      refine .opp (P.mov .g1) rfl ?_
      refine .opp (P.mov .g1) rfl ?_
      refine .opp (P.capn .t0 runUnderlying68) rfl ?_
      refine .opp (P.mov .g2) rfl ?_
      refine .opp (P.lenn .t0 runUnderlying68) rfl ?_
      refine .opp (P.bin (v := N 0) .t1 .t0 (.subc (by decide))) rfl ?_
      refine .opp (P.bin .t1 .t0 .sub) rfl ?_
      refine .drop .k2 ?_
      refine .opp (P.asg .t0) rfl ?_
      refine .nil ?_
      refine .then ?_
      refine .seq ?_
      refine .reg rfl ?_
      refine .opp (P.mov .g0) rfl ?_
      refine .opp (P.bin .t0 .k .gtr) rfl ?_
      refine .nil ?_
      refine .then ?_
      refine .cond .t0 (fun c5 => ?_) (fun c5 => ?_)
      · rw [if_pos c5] at hj4
        refine .reg rfl ?_
        refine .opp (P.mov .g1) rfl ?_
        refine .opp (P.mov .g2) rfl ?_
        refine .opp (P.capn .t0 runUnderlying68) rfl ?_
        refine .opp (P.sln .t1 .t0 runUnderlying68 sizeOf72) rfl ?_
        refine .opp (P.mov .t1) rfl ?_
        obtain ⟨hb7, hj4⟩ := grd_eq hj4
        refine .opg (G.appn (by_ := 256) (cs := (clock_Stamp.cs ⟨0, 0, ⟨0, 0, ⟨0, 0, 0, 0, ⟨0, 0, 0, 0⟩, ⟨0, ⟨#[]⟩, 0, 0, 0, 0, ⟨#[]⟩⟩, ⟨⟨0, 0, 0, 0⟩, 0⟩, ⟨0, 0, 0, 0⟩, ⟨#[]⟩⟩⟩⟩)) (m := IntKind.i64.wrap (a1 - 0)) .t1 .t0 runUnderlying68 runUnderlying3 sizeOf72 typeInfo72 rfl rfl zeroValue72 rfl rfl rfl hb7.1 hb7.2 rfl) rfl fun u6 _ => ?_
        refine .conseq .k0 (q := lst 72 29 u6 (((List.replicate (IntKind.i64.wrap (a1 - 0)).toNat (⟨0, 0, ⟨0, 0, ⟨0, 0, 0, 0, ⟨0, 0, 0, 0⟩, ⟨0, ⟨#[]⟩, 0, 0, 0, 0, ⟨#[]⟩⟩, ⟨⟨0, 0, 0, 0⟩, 0⟩, ⟨0, 0, 0, 0⟩, ⟨#[]⟩⟩⟩⟩ : clock_Stamp))).map clock_Stamp.cs)) (fun _ hh => by simpa [List.map_replicate] using hh) ?_
        refine .opp (P.mov .g1) rfl ?_
        refine .opp (P.lenn .t0 runUnderlying68) rfl ?_
        refine .opg (G.sll (m := 0) .t1 .t0 .k0 runUnderlying68 sizeOf72 (by decide) (Int.natCast_nonneg _) rfl) rfl fun u8 _ => ?_
        refine .conseq .k0 (q := lst 72 29 u8 []) (fun _ hh => by simpa using hh) ?_
        refine .drop .k1 ?_
        refine .opp (P.asg .t0) rfl ?_
        refine .nil ?_
        cases hj4
        exact .stj u8 (.cons Mm.m0 .nil) (.of (.cons .k0 .nil)) .nil
      · rw [if_neg (ne_true_of_eq_false c5)] at hj4
        refine .skip ?_
        cases hj4
        refine .lnil 72 29 ?_
        exact .stj nilSl (.cons Mm.m1 .nil) (.of (.cons .k0 .nil)) .nil
    · clear hj4
      refine .seq ?_
      refine .reg rfl ?_
      refine .opp (P.mov .t0) rfl ?_
      refine .opp (P.asg .t0) rfl ?_
      refine .nil ?_
      refine .then ?_
      refine .ret ?_
      cases h
      exact .finw z3 (.r1 rfl (.tmp .g0)) trivial (Ls.of (.cons .k0 .nil)) .nil
attribute [irreducible] slices_Grow_i128_nil
noncomputable def slices_Concat_i75_n2 (a0a : List clock_Stamp) (a0b : List clock_Stamp) : Option ((List clock_Stamp)) :=
  if (decide ((IntKind.i64.wrap (0 + ((a0a.length : Int)))) < 0)) = true then none else (if (decide ((IntKind.i64.wrap ((IntKind.i64.wrap (0 + ((a0a.length : Int)))) + ((a0b.length : Int)))) < 0)) = true then none else (Option.bind (slices_Grow_i128_nil (IntKind.i64.wrap ((IntKind.i64.wrap (0 + ((a0a.length : Int)))) + ((a0b.length : Int))))) fun r9 => grd ((r9.length + a0a.length) * 256 ≤ 140737488355328) <| grd ((((r9 ++ a0a)).length + a0b.length) * 256 ≤ 140737488355328) <| some (((((r9 ++ a0a)) ++ a0b)))))
set_option maxRecDepth 20000 in
set_option maxHeartbeats 1000000 in
theorem S_slices_Concat_i75_n2 (v00 : Value) (z00a : Value) (a0a : List clock_Stamp) (z00b : Value) (a0b : List clock_Stamp) (r : (List clock_Stamp)) (h : slices_Concat_i75_n2 a0a a0b = some r) :
    SpecF Try.prog 75 [v00] [] [rows 1 v00 [[z00a], [z00b]], rows 29 z00a (a0a.map clock_Stamp.cs), rows 29 z00b (a0b.map clock_Stamp.cs)] (fun _ : Value => True) (fun z => z) (fun z M => lst 72 29 z (r.map clock_Stamp.cs) ::  M) (fun z M =>  M) := by
  refine .of func75 rfl ntmps75 rfl fun w0 D0 G0 => ?_
  unfold slices_Concat_i75_n2 at h
  refine .seq ?_
  refine .reg rfl ?_
  refine .op0 (OpP.toV (P.asg .k)) rfl ?_
  refine .nil ?_
  refine .then ?_
  refine .seq ?_
  refine .reg rfl ?_
  refine .opp (P.asg .k) rfl ?_
  refine .nil ?_
  refine .then ?_
  refine .seq ?_
  refine .seq ?_
  refine .reg rfl ?_
  refine .opp (P.mov .g1) rfl ?_
  refine .op (V.lnr (n := 2) .g0 Mm.m0 rfl runUnderlying197) rfl ?_
  refine .opp (P.mov .k) rfl ?_
  refine .nil ?_
  refine .then ?_
  refine .block ?_
  refine .rounds 3 ?_
  refine .rd ?_
  refine .seq ?_
  refine .reg rfl ?_
  refine .opp (P.bin (v := Bo true) .g0 .g1 (BinV.lss.boolc (by decide))) rfl ?_
  refine .nil ?_
  refine .then ?_
  refine .seq ?_
  refine .condT .t0 ?_
  refine .skip ?_
  refine .then ?_
  refine .seq ?_
  refine .block ?_
  refine .seq ?_
  refine .reg rfl ?_
  refine .ixq Mm.m0 (show [[z00a], [z00b]][0]? = some [z00a] from rfl) fun p1 q2 hq3 => ?_
  refine .opp (P.ixi (i := 0) .g0 rfl .g2 hq3 runUnderlying197 sizeOf68) rfl ?_
  refine .op (V.ldx0 (u := z00a) .t0 hq3 Mm.m0 (show [[z00a], [z00b]][0]? = some [z00a] from rfl) (.one isAgg68 rfl)) rfl ?_
  refine .opp (P.asg .t0) rfl ?_
  refine .nil ?_
  refine .then ?_
  refine .seq ?_
  refine .reg rfl ?_
  refine .opp (P.mov .g4) rfl ?_
  refine .opp (P.mov .t1) rfl ?_
  refine .op (V.lnr (n := a0a.length) .t0 Mm.m1 map_len runUnderlying68) rfl ?_
  refine .opp (P.bin .t1 .t0 .add) rfl ?_
  refine .drop .k4 ?_
  refine .opp (P.asg .t0) rfl ?_
  refine .nil ?_
  refine .then ?_
  refine .seq ?_
  refine .reg rfl ?_
  refine .opp (P.mov .g0) rfl ?_
  refine .opp (P.bin .t0 .k .lss) rfl ?_
  refine .nil ?_
  refine .then ?_
  refine .cond .t0 (fun c4 => ?_) (fun c4 => ?_)
  · rw [if_pos c4] at h
    refine .reg rfl ?_
    cases h
  · rw [if_neg (ne_true_of_eq_false c4)] at h
    refine .skip ?_
    refine .inn ?_
    refine .then ?_
    refine .reg rfl ?_
    refine .opp (P.bin (v := N 1) .g1 .k (.addc (by decide))) rfl ?_
    refine .drop .k2 ?_
    refine .opp (P.mov .t0) rfl ?_
    refine .nil ?_
    refine .then ?_
    refine .rd ?_
    refine .seq ?_
    refine .reg rfl ?_
    refine .opp (P.bin (v := Bo true) .g0 .g2 (BinV.lss.boolc (by decide))) rfl ?_
    refine .nil ?_
    refine .then ?_
    refine .seq ?_
    refine .condT .t0 ?_
    refine .skip ?_
    refine .then ?_
    refine .seq ?_
    refine .block ?_
    refine .seq ?_
    refine .reg rfl ?_
    refine .ixq Mm.m0 (show [[z00a], [z00b]][1]? = some [z00b] from rfl) fun p5 q6 hq7 => ?_
    refine .opp (P.ixi (i := 1) .g0 rfl .g3 hq7 runUnderlying197 sizeOf68) rfl ?_
    refine .op (V.ldx0 (u := z00b) .t0 hq7 Mm.m0 (show [[z00a], [z00b]][1]? = some [z00b] from rfl) (.one isAgg68 rfl)) rfl ?_
    refine .opp (P.asg .t0) rfl ?_
    refine .nil ?_
    refine .then ?_
    refine .seq ?_
    refine .reg rfl ?_
    refine .opp (P.mov .g2) rfl ?_
    refine .opp (P.mov .t1) rfl ?_
    refine .op (V.lnr (n := a0b.length) .t0 Mm.m2 map_len runUnderlying68) rfl ?_
    refine .opp (P.bin .t1 .t0 .add) rfl ?_
    refine .drop .k2 ?_
    refine .opp (P.asg .t0) rfl ?_
    refine .nil ?_
    refine .then ?_
    refine .seq ?_
    refine .reg rfl ?_
    refine .opp (P.mov .g0) rfl ?_
    refine .opp (P.bin .t0 .k .lss) rfl ?_
    refine .nil ?_
    refine .then ?_
    refine .cond .t0 (fun c8 => ?_) (fun c8 => ?_)
    · rw [if_pos c8] at h
      refine .reg rfl ?_
      cases h
    · rw [if_neg (ne_true_of_eq_false c8)] at h
      refine .skip ?_
      refine .inn ?_
      refine .then ?_
      refine .reg rfl ?_
      refine .opp (P.bin (v := N 2) .g1 .k (.addc (by decide))) rfl ?_
      refine .drop .k2 ?_
      refine .opp (P.mov .t0) rfl ?_
      refine .nil ?_
      refine .then ?_
      refine .rd ?_
      refine .seq ?_
      refine .reg rfl ?_
      refine .opp (P.bin (v := Bo false) .g0 .g2 (BinV.lss.boolc (by decide))) rfl ?_
      refine .nil ?_
      refine .then ?_
      refine .seq ?_
      refine .condF .t0 ?_
      refine .exit ?_
      refine .thx ?_
      refine .thx ?_
      refine .inb ?_
      refine .then ?_
      refine .seq ?_
      refine .reg rfl ?_
      refine .opp (P.mov .t1) rfl ?_
      obtain ⟨r9, hr10, h⟩ := bnd_eq h
      refine .opg (G.call call128 (.cons .k (.cons .t0 .nil)) (S_slices_Grow_i128_nil (IntKind.i64.wrap ((IntKind.i64.wrap (0 + ((a0a.length : Int)))) + ((a0b.length : Int)))) r9 hr10) .nil .nil (fun _ _ => rfl) (fun _ _ => rfl) rfl) rfl fun u11 _ => ?_
      refine .opp (P.asg .t0) rfl ?_
      refine .nil ?_
      refine .then ?_
      refine .seq ?_
      refine .seq ?_
      refine .reg rfl ?_
      refine .opp (P.mov .t4) rfl ?_
      refine .op (V.lnr (n := 2) .g0 Mm.m0 rfl runUnderlying197) rfl ?_
      refine .opp (P.mov .k) rfl ?_
      refine .nil ?_
      refine .then ?_
      refine .block ?_
      refine .rounds 3 ?_
      refine .rd ?_
      refine .seq ?_
      refine .reg rfl ?_
      refine .opp (P.bin (v := Bo true) .g0 .g1 (BinV.lss.boolc (by decide))) rfl ?_
      refine .nil ?_
      refine .then ?_
      refine .seq ?_
      refine .condT .t0 ?_
      refine .skip ?_
      refine .then ?_
      refine .seq ?_
      refine .block ?_
      refine .seq ?_
      refine .reg rfl ?_
      refine .ixq Mm.m0 (show [[z00a], [z00b]][0]? = some [z00a] from rfl) fun p12 q13 hq14 => ?_
      refine .opp (P.ixi (i := 0) .g0 rfl .g2 hq14 runUnderlying197 sizeOf68) rfl ?_
      refine .op (V.ldx0 (u := z00a) .t0 hq14 Mm.m0 (show [[z00a], [z00b]][0]? = some [z00a] from rfl) (.one isAgg68 rfl)) rfl ?_
      refine .opp (P.asg .t0) rfl ?_
      refine .nil ?_
      refine .then ?_
      refine .reg rfl ?_
      refine .opp (P.mov .g4) rfl ?_
      refine .opp (P.mov .t1) rfl ?_
      obtain ⟨hb16, h⟩ := grd_eq h
      refine .opg (G.app (by_ := 256) .t1 .t0 .k0 (.inl Mm.m1) runUnderlying68 runUnderlying68 sizeOf72 typeInfo72 rfl rfl zeroValue72 rfl (one_map one_72 _) (by simpa using hb16) rfl) rfl fun u15 _ => ?_
      refine .conseq .k0 (q := lst 72 29 u15 (((r9 ++ a0a)).map clock_Stamp.cs)) (fun _ hh => by simpa [List.map_append] using hh) ?_
      refine .drop .k4 ?_
      refine .opp (P.asg .t0) rfl ?_
      refine .nil ?_
      refine .inn ?_
      refine .then ?_
      refine .reg rfl ?_
      refine .opp (P.bin (v := N 1) .g1 .k (.addc (by decide))) rfl ?_
      refine .drop .k2 ?_
      refine .opp (P.mov .t0) rfl ?_
      refine .nil ?_
      refine .then ?_
      refine .rd ?_
      refine .seq ?_
      refine .reg rfl ?_
      refine .opp (P.bin (v := Bo true) .g0 .g2 (BinV.lss.boolc (by decide))) rfl ?_
      refine .nil ?_
      refine .then ?_
      refine .seq ?_
      refine .condT .t0 ?_
      refine .skip ?_
      refine .then ?_
      refine .seq ?_
      refine .block ?_
      refine .seq ?_
      refine .reg rfl ?_
      refine .ixq Mm.m0 (show [[z00a], [z00b]][1]? = some [z00b] from rfl) fun p17 q18 hq19 => ?_
      refine .opp (P.ixi (i := 1) .g0 rfl .g3 hq19 runUnderlying197 sizeOf68) rfl ?_
      refine .op (V.ldx0 (u := z00b) .t0 hq19 Mm.m0 (show [[z00a], [z00b]][1]? = some [z00b] from rfl) (.one isAgg68 rfl)) rfl ?_
      refine .opp (P.asg .t0) rfl ?_
      refine .nil ?_
      refine .then ?_
      refine .reg rfl ?_
      refine .opp (P.mov .g2) rfl ?_
      refine .opp (P.mov .t1) rfl ?_
      obtain ⟨hb21, h⟩ := grd_eq h
      refine .opg (G.app (by_ := 256) .t1 .t0 .k0 (.inl Mm.m2) runUnderlying68 runUnderlying68 sizeOf72 typeInfo72 rfl rfl zeroValue72 rfl (one_map one_72 _) (by simpa using hb21) rfl) rfl fun u20 _ => ?_
      refine .conseq .k0 (q := lst 72 29 u20 (((((r9 ++ a0a)) ++ a0b)).map clock_Stamp.cs)) (fun _ hh => by simpa [List.map_append] using hh) ?_
      refine .drop .k2 ?_
      refine .opp (P.asg .t0) rfl ?_
      refine .nil ?_
      refine .inn ?_
      refine .then ?_
      refine .reg rfl ?_
      refine .opp (P.bin (v := N 2) .g1 .k (.addc (by decide))) rfl ?_
      refine .drop .k2 ?_
      refine .opp (P.mov .t0) rfl ?_
      refine .nil ?_
      refine .then ?_
      refine .rd ?_
      refine .seq ?_
      refine .reg rfl ?_
      refine .opp (P.bin (v := Bo false) .g0 .g2 (BinV.lss.boolc (by decide))) rfl ?_
      refine .nil ?_
      refine .then ?_
      refine .seq ?_
      refine .condF .t0 ?_
      refine .exit ?_
      refine .thx ?_
      refine .thx ?_
      refine .inb ?_
      refine .then ?_
      refine .seq ?_
      refine .reg rfl ?_
      refine .opp (P.mov .t1) rfl ?_
      refine .opp (P.asg .t0) rfl ?_
      refine .nil ?_
      refine .then ?_
      refine .ret ?_
      cases h
      exact .finw u20 (.r1 rfl (.tmp .g0)) trivial (Ls.of (.cons .k0 .nil)) .nil
attribute [irreducible] slices_Concat_i75_n2
noncomputable def slices_insertionSortCmpFunc_i167_m_f78 (a0 : List clock_Stamp) (a1 : Int) (a2 : Int) : Option ((List clock_Stamp)) :=
  Option.bind (loopW (fun (s1 : Int × (List clock_Stamp)) => if (decide (s1.1 < a2)) = true then (Option.bind (loopW (fun (s11 : Int × (List clock_Stamp)) => Option.bind (if (decide (s11.1 > a1)) = true then (Option.bind (at_ s11.2 s11.1) fun (x27 : clock_Stamp) => Option.bind (at_ s11.2 (IntKind.i64.wrap (s11.1 - 1))) fun (x34 : clock_Stamp) => some (decide (((clock_Merge_1 x27 x34)) < 0))) else (some false)) fun (y20 : Bool) => if y20 = true then (Option.bind (at_ s11.2 (IntKind.i64.wrap (s11.1 - 1))) fun (x42 : clock_Stamp) => Option.bind (at_ s11.2 s11.1) fun (x49 : clock_Stamp) => Option.bind (at_ s11.2 s11.1) fun (x56 : clock_Stamp) => Option.bind (at_ ((s11.2.set ((s11.1).toNat) (x42 : clock_Stamp))) (IntKind.i64.wrap (s11.1 - 1))) fun (x63 : clock_Stamp) => some (.nx ((IntKind.i64.wrap (s11.1 - 1), (((s11.2.set ((s11.1).toNat) (x42 : clock_Stamp))).set ((IntKind.i64.wrap (s11.1 - 1)).toNat) (x49 : clock_Stamp)))))) else (some (.br (s11.1, s11.2)))) (s1.1, s1.2)) fun o13 => Lo.on o13 fun (s11 : Int × (List clock_Stamp)) => some (.nx ((IntKind.i64.wrap (s1.1 + 1), s11.2)))) else (some (.br (s1.1, s1.2)))) ((IntKind.i64.wrap (a1 + 1), a0))) fun o3 => Lo.on o3 fun (s1 : Int × (List clock_Stamp)) => some s1.2
set_option maxRecDepth 20000 in
set_option maxHeartbeats 1000000 in
theorem S_slices_insertionSortCmpFunc_i167_m_f78 (v00 : Value) (a0 : List clock_Stamp) (a1 : Int) (a2 : Int) (r : (List clock_Stamp)) (h : slices_insertionSortCmpFunc_i167_m_f78 a0 a1 a2 = some r) :
    SpecF Try.prog 167 [v00, N a1, N a2, fnv 78 []] [lst 72 29 v00 (a0.map clock_Stamp.cs)] [] (fun _ : Unit => True) (fun z => Tu []) (fun z M => lst 72 29 v00 (r.map clock_Stamp.cs) ::  M) (fun z M =>  M) := by
  refine .of func167 rfl ntmps167 rfl fun w0 D0 G0 => ?_
  unfold slices_insertionSortCmpFunc_i167_m_f78 at h
  refine .seq ?_
  refine .reg rfl ?_
  refine .opp (P.mov .g1) rfl ?_
  refine .opp (P.bin .t0 .k .add) rfl ?_
  refine .opp (P.asg .t0) rfl ?_
  refine .nil ?_
  refine .then ?_
  refine .block ?_
  obtain ⟨o3, ho4, h⟩ := bnd_eq h
  refine .loopW (γ := Unit) (fun (s1 : Int × (List clock_Stamp)) z2 => [(8, N s1.1), (0, v00), (1, N a1), (2, N a2), (3, fnv 78 [])]) (fun (s1 : Int × (List clock_Stamp)) z2 => [lst 72 29 v00 (s1.2.map clock_Stamp.cs)]) (fun (s1 : Int × (List clock_Stamp)) z2 => []) () ho4 (.cons Mm.m0 (.cons Mm.m1 (.cons Mm.m2 (.cons Mm.m3 (.cons Mm.m4 .nil))))) (.of (.cons .k0 .nil)) .nil (fun n9 s1 z2 hr7 => ?_)
  obtain ⟨ct8, hc5, hn6⟩ := loopK_at hr7
  refine .seq ?_
  refine .seq ?_
  refine .reg rfl ?_
  refine .opp (P.mov .g0) rfl ?_
  refine .opp (P.mov .g4) rfl ?_
  refine .opp (P.bin .t1 .t0 .lss) rfl ?_
  refine .nil ?_
  refine .then ?_
  refine .cond .t0 (fun c10 => ?_) (fun c10 => ?_)
  · rw [if_pos c10] at hc5
    refine .skip ?_
    refine .then ?_
    refine .seq ?_
    refine .block ?_
    refine .seq ?_
    refine .reg rfl ?_
    refine .opp (P.mov .g0) rfl ?_
    refine .opp (P.asg .t0) rfl ?_
    refine .nil ?_
    refine .then ?_
    refine .block ?_
    obtain ⟨o13, ho14, hc5⟩ := bnd_eq hc5
    refine .loopW (γ := Unit) (fun (s11 : Int × (List clock_Stamp)) z12 => [(9, N s11.1), (8, N s1.1), (0, v00), (1, N a1), (2, N a2), (3, fnv 78 [])]) (fun (s11 : Int × (List clock_Stamp)) z12 => [lst 72 29 v00 (s11.2.map clock_Stamp.cs)]) (fun (s11 : Int × (List clock_Stamp)) z12 => []) () ho14 (.cons Mm.m0 (.cons Mm.m1 (.cons Mm.m2 (.cons Mm.m3 (.cons Mm.m4 (.cons Mm.m5 .nil)))))) (.of (.cons .k0 .nil)) .nil (fun n19 s11 z12 hr17 => ?_)
    obtain ⟨ct18, hc15, hn16⟩ := loopK_at hr17
    refine .seq ?_
    obtain ⟨y20, hj22, hc15⟩ := bnd_eq hc15
    refine .cutx (γ := Unit) (E1 := fun z21 => [(34, Bo y20), (9, N s11.1), (8, N s1.1), (0, v00), (1, N a1), (2, N a2), (3, fnv 78 [])]) (L1 := fun z21 => [lst 72 29 v00 (s11.2.map clock_Stamp.cs)]) (R1 := fun z21 => []) ?_ (fun z21 => ?_)
    · clear hc15
      refine .draw 17 (.on 0 .pu (.on 1 .pu (.on 2 .pu (.on 3 .pu (.on 4 .pu (.on 5 .pu (.on 6 .pu (.on 7 .pu (.on 9 .pu (.on 10 .pu (.on 11 .pu (.on 12 .pu (.on 8 .ld (.on 13 .ld (.on 14 .go (.on 15 .pu (.on 16 .pu .nl))))))))))))))))) follows_mixed (.thn (.thn (.thn (.inb (.inb (.thn (.thn (.inb .body)))))))) (by kernel_rfl) ?_
      refine .dpu rfl (.n rfl) (P.mov .g0) rfl rfl ?_
      refine .dpu rfl (.n rfl) (P.mov .g4) rfl rfl ?_
      refine .dpu rfl (.n rfl) (P.bin .t1 .t0 .gtr) rfl rfl ?_
      refine .dpu rfl (.n rfl) (P.mov .t0) rfl rfl ?_
      refine .split .k0 (fun c23 => ?_) (fun c23 => ?_)
      · rw [if_pos c23] at hj22
        refine .dpu rfl (.g rfl rfl .g0 rfl) (P.mov .g6) rfl rfl ?_
        refine .dpu rfl (.g rfl rfl .g1 rfl) (P.mov .g4) rfl rfl ?_
        refine .dpu rfl (.g rfl rfl .g2 rfl) (P.mov .g3) rfl rfl ?_
        obtain ⟨x27, hx28, hj22⟩ := bnd_eq hj22
        obtain ⟨i29, hi30, hx28⟩ := at_eq hx28
        have hi30_ : (s11.1).toNat = i29 := by rw [hi30]; rfl
        refine .ixql .k0 (map_get hx28) fun p24 q25 hq26 => ?_
        refine .dpu rfl (.g rfl rfl .g3 rfl) (P.ixi (i := i29) .t0 hi30 .t0 hq26 runUnderlying68 sizeOf72) rfl rfl ?_
        refine .dpu rfl (.g rfl rfl .g2 rfl) (P.mov .g5) rfl rfl ?_
        refine .dpu rfl (.g rfl rfl .g3 rfl) (P.mov .g4) rfl rfl ?_
        refine .dpu rfl (.g rfl rfl .g4 rfl) (P.bin .t0 .k .sub) rfl rfl ?_
        obtain ⟨x34, hx35, hj22⟩ := bnd_eq hj22
        obtain ⟨i36, hi37, hx35⟩ := at_eq hx35
        have hi37_ : (IntKind.i64.wrap (s11.1 - 1)).toNat = i36 := by rw [hi37]; rfl
        refine .ixql .k0 (map_get hx35) fun p31 q32 hq33 => ?_
        refine .dpu rfl (.g rfl rfl .g4 rfl) (P.ixi (i := i36) .t0 hi37 .t0 hq33 runUnderlying68 sizeOf72) rfl rfl ?_
        refine .dld rfl (.g rfl rfl .g3 rfl) (V.ldxl0 (u := Ag (clock_Stamp.cs x27)) .t1 hq26 .k0 (map_get hx28) (.agg isAgg72 sizeOf72 rfl rfl)) (fun _ h => h) rfl rfl ?_
        refine .dld rfl (.g rfl rfl .g3 rfl) (V.ldxl0 (u := Ag (clock_Stamp.cs x34)) .t1 hq33 .k0 (map_get hx35) (.agg isAgg72 sizeOf72 rfl rfl)) (fun _ h => h) rfl rfl ?_
        refine .dgo rfl (.g rfl rfl .g3 rfl) (G.callv call78 .t2 (.cons .t1 (.cons .t0 .nil)) (S_clock_Merge_1 x27 x34 _ rfl) .nil .nil (fun _ _ => rfl) (fun _ _ => rfl) rfl) (.inr fun _ _ _ h => h) fun _ _ => ?_
        refine .dpu rfl (.g rfl rfl .g1 rfl) (P.bin .t0 .k .lss) rfl rfl ?_
        refine .dpu rfl (.n rfl) (P.pickT .t1 .t0) rfl rfl ?_
        refine .dnil ?_
        cases hj22
        exact .stj () (.cons Mm.m0 (.cons Mm.m1 (.cons Mm.m2 (.cons Mm.m3 (.cons Mm.m4 (.cons Mm.m5 (.cons Mm.m6 .nil))))))) (.of (.cons .k0 .nil)) .nil
      · rw [if_neg (ne_true_of_eq_false c23)] at hj22
        refine .dsk rfl (.g rfl rfl .g0 rfl) rfl rfl ?_
        refine .dsk rfl (.g rfl rfl .g0 rfl) rfl rfl ?_
        refine .dsk rfl (.g rfl rfl .g0 rfl) rfl rfl ?_
        refine .dsk rfl (.g rfl rfl .g0 rfl) rfl rfl ?_
        refine .dsk rfl (.g rfl rfl .g0 rfl) rfl rfl ?_
        refine .dsk rfl (.g rfl rfl .g0 rfl) rfl rfl ?_
        refine .dsk rfl (.g rfl rfl .g0 rfl) rfl rfl ?_
        refine .dsk rfl (.g rfl rfl .g0 rfl) rfl rfl ?_
        refine .dskl rfl (.g rfl rfl .g0 rfl) (fun _ h => h) rfl rfl ?_
        refine .dskl rfl (.g rfl rfl .g0 rfl) (fun _ h => h) rfl rfl ?_
        refine .dskg rfl (.g rfl rfl .g0 rfl) (.inr fun _ h => h) rfl rfl ?_
        refine .dsk rfl (.g rfl rfl .g0 rfl) rfl rfl ?_
        refine .dpu rfl (.n rfl) (P.pickF .t0 .k) rfl rfl ?_
        refine .dnil ?_
        cases hj22
        exact .stj () (.cons Mm.m0 (.cons Mm.m1 (.cons Mm.m2 (.cons Mm.m3 (.cons Mm.m4 (.cons Mm.m5 (.cons Mm.m6 .nil))))))) (.of (.cons .k0 .nil)) .nil
    · clear hj22
      refine .cond .t0 (fun c38 => ?_) (fun c38 => ?_)
      · rw [if_pos c38] at hc15
        refine .skip ?_
        refine .then ?_
        refine .seq ?_
        refine .block ?_
        refine .draw 15 (.on 0 .pu (.on 1 .pu (.on 2 .pu (.on 3 .pu (.on 4 .pu (.on 5 .pu (.on 6 .pu (.on 7 .pu (.on 8 .pu (.on 10 .pu (.on 11 .pu (.on 12 .pu (.on 9 .ld (.on 13 .ld (.on 14 .pu (.on 15 .go (.on 16 .pu (.on 17 .go .nl)))))))))))))))))) follows_mixed (.inb (.thn (.thn (.inb (.inb (.thn (.thn (.inb .body)))))))) (by kernel_rfl) ?_
        refine .dpu rfl (.n rfl) (P.mov .g2) rfl rfl ?_
        refine .dpu rfl (.n rfl) (P.mov .g1) rfl rfl ?_
        refine .dpu rfl (.n rfl) (P.mov .g4) rfl rfl ?_
        refine .dpu rfl (.n rfl) (P.mov .g3) rfl rfl ?_
        refine .dpu rfl (.n rfl) (P.bin .t0 .k .sub) rfl rfl ?_
        refine .dpu rfl (.n rfl) (P.mov .g6) rfl rfl ?_
        refine .dpu rfl (.n rfl) (P.mov .g5) rfl rfl ?_
        refine .dpu rfl (.n rfl) (P.bin .t0 .k .sub) rfl rfl ?_
        obtain ⟨x42, hx43, hc15⟩ := bnd_eq hc15
        obtain ⟨i44, hi45, hx43⟩ := at_eq hx43
        have hi45_ : (IntKind.i64.wrap (s11.1 - 1)).toNat = i44 := by rw [hi45]; rfl
        refine .ixql .k0 (map_get hx43) fun p39 q40 hq41 => ?_
        refine .dpu rfl (.n rfl) (P.ixi (i := i44) .t0 hi45 .t0 hq41 runUnderlying68 sizeOf72) rfl rfl ?_
        refine .dpu rfl (.n rfl) (P.mov .g7) rfl rfl ?_
        refine .dpu rfl (.n rfl) (P.mov .g6) rfl rfl ?_
        obtain ⟨x49, hx50, hc15⟩ := bnd_eq hc15
        obtain ⟨i51, hi52, hx50⟩ := at_eq hx50
        have hi52_ : (s11.1).toNat = i51 := by rw [hi52]; rfl
        refine .ixql .k0 (map_get hx50) fun p46 q47 hq48 => ?_
        refine .dpu rfl (.n rfl) (P.ixi (i := i51) .t0 hi52 .t0 hq48 runUnderlying68 sizeOf72) rfl rfl ?_
        refine .dld rfl (.n rfl) (V.ldxl0 (u := Ag (clock_Stamp.cs x42)) .t1 hq41 .k0 (map_get hx43) (.agg isAgg72 sizeOf72 rfl rfl)) (fun _ h => h) rfl rfl ?_
        refine .dld rfl (.n rfl) (V.ldxl0 (u := Ag (clock_Stamp.cs x49)) .t1 hq48 .k0 (map_get hx50) (.agg isAgg72 sizeOf72 rfl rfl)) (fun _ h => h) rfl rfl ?_
        obtain ⟨x56, hx57, hc15⟩ := bnd_eq hc15
        obtain ⟨i58, hi59, hx57⟩ := at_eq hx57
        have hi59_ : (s11.1).toNat = i58 := by rw [hi59]; rfl
        refine .ixql .k0 (map_get hx57) fun p53 q54 hq55 => ?_
        refine .dpu rfl (.n rfl) (P.ixi (i := i58) .t4 hi59 .t4 hq55 runUnderlying68 sizeOf72) rfl rfl ?_
        refine .dgo rfl (.n rfl) (G.stx (off := q54) (k := 0) (cs' := (clock_Stamp.cs x42)) .t2 .t0 hq55 .k0 (map_get hx57) (.mk sizeOf72 rfl rfl rfl rfl)) (.inl rfl) fun _ _ => ?_
        refine .conseq .k0 (q := lst 72 29 v00 (((s11.2.set ((s11.1).toNat) (x42 : clock_Stamp))).map clock_Stamp.cs)) (fun _ h_ => by rw [hi59_]; simpa [List.map_set] using h_) ?_
        obtain ⟨x63, hx64, hc15⟩ := bnd_eq hc15
        obtain ⟨i65, hi66, hx64⟩ := at_eq hx64
        have hi66_ : (IntKind.i64.wrap (s11.1 - 1)).toNat = i65 := by rw [hi66]; rfl
        refine .ixql .k0 (map_get hx64) fun p60 q61 hq62 => ?_
        refine .dpu rfl (.n rfl) (P.ixi (i := i65) .t1 hi66 .t1 hq62 runUnderlying68 sizeOf72) rfl rfl ?_
        refine .dgo rfl (.n rfl) (G.stx (off := q61) (k := 0) (cs' := (clock_Stamp.cs x49)) .t1 .t0 hq62 .k0 (map_get hx64) (.mk sizeOf72 rfl rfl rfl rfl)) (.inl rfl) fun _ _ => ?_
        refine .conseq .k0 (q := lst 72 29 v00 (((((s11.2.set ((s11.1).toNat) (x42 : clock_Stamp))).set ((IntKind.i64.wrap (s11.1 - 1)).toNat) (x49 : clock_Stamp))).map clock_Stamp.cs)) (fun _ h_ => by rw [hi66_]; simpa [List.map_set] using h_) ?_
        refine .dnil ?_
        refine .inn ?_
        refine .then ?_
        refine .reg rfl ?_
        refine .opp (P.mov .g0) rfl ?_
        refine .opp (P.bin .t0 .k .sub) rfl ?_
        refine .drop .k1 ?_
        refine .opp (P.asg .t0) rfl ?_
        refine .nil ?_
        cases hc15
        obtain ⟨m67, hm68, hn16⟩ := hn16
        exact .rdW ((IntKind.i64.wrap (s11.1 - 1), (((s11.2.set ((s11.1).toNat) (x42 : clock_Stamp))).set ((IntKind.i64.wrap (s11.1 - 1)).toNat) (x49 : clock_Stamp)))) () hm68 hn16 (.cons Mm.m0 (.cons Mm.m1 (.cons Mm.m2 (.cons Mm.m3 (.cons Mm.m4 (.cons Mm.m5 .nil)))))) (.of (.cons .k0 .nil)) .nil
      · rw [if_neg (ne_true_of_eq_false c38)] at hc15
        refine .exit ?_
        refine .thx ?_
        cases hc15
        refine .told (γ := Unit) hc5 hn16 (fun (s11 : Int × (List clock_Stamp)) _ => [(9, N s11.1), (8, N s1.1), (0, v00), (1, N a1), (2, N a2), (3, fnv 78 [])]) (fun (s11 : Int × (List clock_Stamp)) _ => [lst 72 29 v00 (s11.2.map clock_Stamp.cs)]) (fun (s11 : Int × (List clock_Stamp)) _ => []) () (.cons Mm.m0 (.cons Mm.m1 (.cons Mm.m2 (.cons Mm.m3 (.cons Mm.m4 (.cons Mm.m5 .nil)))))) (.of (.cons .k0 .nil)) .nil (fun s11 _ hc5' => ?_)
        replace hc5 := hc5'
        refine .thx ?_
        refine .inb ?_
        refine .inn ?_
        refine .then ?_
        refine .reg rfl ?_
        refine .opp (P.mov .g1) rfl ?_
        refine .opp (P.bin .t0 .k .add) rfl ?_
        refine .drop .k2 ?_
        refine .opp (P.asg .t0) rfl ?_
        refine .nil ?_
        cases hc5
        obtain ⟨m69, hm70, hn6⟩ := hn6
        exact .rdW ((IntKind.i64.wrap (s1.1 + 1), s11.2)) () hm70 hn6 (.cons Mm.m0 (.cons Mm.m2 (.cons Mm.m3 (.cons Mm.m4 (.cons Mm.m5 .nil))))) (.of (.cons .k0 .nil)) .nil
  · rw [if_neg (ne_true_of_eq_false c10)] at hc5
    refine .exit ?_
    refine .thx ?_
    cases hc5
    refine .told (γ := Unit) h hn6 (fun (s1 : Int × (List clock_Stamp)) _ => [(8, N s1.1), (0, v00), (1, N a1), (2, N a2), (3, fnv 78 [])]) (fun (s1 : Int × (List clock_Stamp)) _ => [lst 72 29 v00 (s1.2.map clock_Stamp.cs)]) (fun (s1 : Int × (List clock_Stamp)) _ => []) () (.cons Mm.m0 (.cons Mm.m1 (.cons Mm.m2 (.cons Mm.m3 (.cons Mm.m4 .nil))))) (.of (.cons .k0 .nil)) .nil (fun s1 _ h' => ?_)
    replace h := h'
    refine .thx ?_
    refine .inb ?_
    cases h
    exact .finwn () (.r0 rfl) trivial (Ls.of (.cons .k0 .nil)) .nil
attribute [irreducible] slices_insertionSortCmpFunc_i167_m_f78
noncomputable def slices_swapRangeCmpFunc_i220_m_f78 (a0 : List clock_Stamp) (a1 : Int) (a2 : Int) (a3 : Int) : Option ((List clock_Stamp)) :=
  Option.bind (loopW (fun (s1 : Int × (List clock_Stamp)) => if (decide (s1.1 < a3)) = true then (Option.bind (at_ s1.2 (IntKind.i64.wrap (a2 + s1.1))) fun (x14 : clock_Stamp) => Option.bind (at_ s1.2 (IntKind.i64.wrap (a1 + s1.1))) fun (x21 : clock_Stamp) => Option.bind (at_ s1.2 (IntKind.i64.wrap (a1 + s1.1))) fun (x28 : clock_Stamp) => Option.bind (at_ ((s1.2.set ((IntKind.i64.wrap (a1 + s1.1)).toNat) (x14 : clock_Stamp))) (IntKind.i64.wrap (a2 + s1.1))) fun (x35 : clock_Stamp) => some (.nx ((IntKind.i64.wrap (s1.1 + 1), (((s1.2.set ((IntKind.i64.wrap (a1 + s1.1)).toNat) (x14 : clock_Stamp))).set ((IntKind.i64.wrap (a2 + s1.1)).toNat) (x21 : clock_Stamp)))))) else (some (.br (s1.1, s1.2)))) (0, a0)) fun o3 => Lo.on o3 fun (s1 : Int × (List clock_Stamp)) => some s1.2
set_option maxRecDepth 20000 in
set_option maxHeartbeats 1000000 in
theorem S_slices_swapRangeCmpFunc_i220_m_f78 (v00 : Value) (a0 : List clock_Stamp) (a1 : Int) (a2 : Int) (a3 : Int) (r : (List clock_Stamp)) (h : slices_swapRangeCmpFunc_i220_m_f78 a0 a1 a2 a3 = some r) :
    SpecF Try.prog 220 [v00, N a1, N a2, N a3, fnv 78 []] [lst 72 29 v00 (a0.map clock_Stamp.cs)] [] (fun _ : Unit => True) (fun z => Tu []) (fun z M => lst 72 29 v00 (r.map clock_Stamp.cs) ::  M) (fun z M =>  M) := by
  refine .of func220 rfl ntmps220 rfl fun w0 D0 G0 => ?_
  unfold slices_swapRangeCmpFunc_i220_m_f78 at h
  refine .seq ?_
  refine .reg rfl ?_
  refine .opp (P.asg .k) rfl ?_
  refine .nil ?_
  refine .then ?_
  refine .block ?_
  obtain ⟨o3, ho4, h⟩ := bnd_eq h
  refine .loopW (γ := Unit) (fun (s1 : Int × (List clock_Stamp)) z2 => [(10, N s1.1), (0, v00), (1, N a1), (2, N a2), (3, N a3)]) (fun (s1 : Int × (List clock_Stamp)) z2 => [lst 72 29 v00 (s1.2.map clock_Stamp.cs)]) (fun (s1 : Int × (List clock_Stamp)) z2 => []) () ho4 (.cons Mm.m0 (.cons Mm.m1 (.cons Mm.m2 (.cons Mm.m3 (.cons Mm.m4 .nil))))) (.of (.cons .k0 .nil)) .nil (fun n9 s1 z2 hr7 => ?_)
  obtain ⟨ct8, hc5, hn6⟩ := loopK_at hr7
  refine .seq ?_
  refine .seq ?_
  refine .reg rfl ?_
  refine .opp (P.mov .g0) rfl ?_
  refine .opp (P.mov .g5) rfl ?_
  refine .opp (P.bin .t1 .t0 .lss) rfl ?_
  refine .nil ?_
  refine .then ?_
  refine .cond .t0 (fun c10 => ?_) (fun c10 => ?_)
  · rw [if_pos c10] at hc5
    refine .skip ?_
    refine .then ?_
    refine .seq ?_
    refine .block ?_
    refine .draw 21 (.on 0 .pu (.on 1 .pu (.on 2 .pu (.on 3 .pu (.on 4 .pu (.on 5 .pu (.on 6 .pu (.on 7 .pu (.on 8 .pu (.on 9 .pu (.on 10 .pu (.on 11 .pu (.on 12 .pu (.on 14 .pu (.on 15 .pu (.on 16 .pu (.on 17 .pu (.on 18 .pu (.on 13 .ld (.on 19 .ld (.on 20 .pu (.on 21 .go (.on 22 .pu (.on 23 .go .nl)))))))))))))))))))))))) follows_mixed (.inb (.thn (.thn (.inb .body)))) (by kernel_rfl) ?_
    refine .dpu rfl (.n rfl) (P.mov .g1) rfl rfl ?_
    refine .dpu rfl (.n rfl) (P.mov .g3) rfl rfl ?_
    refine .dpu rfl (.n rfl) (P.mov .g2) rfl rfl ?_
    refine .dpu rfl (.n rfl) (P.bin .t1 .t0 .add) rfl rfl ?_
    refine .dpu rfl (.n rfl) (P.mov .g3) rfl rfl ?_
    refine .dpu rfl (.n rfl) (P.mov .g6) rfl rfl ?_
    refine .dpu rfl (.n rfl) (P.mov .g4) rfl rfl ?_
    refine .dpu rfl (.n rfl) (P.bin .t1 .t0 .add) rfl rfl ?_
    refine .dpu rfl (.n rfl) (P.mov .g5) rfl rfl ?_
    refine .dpu rfl (.n rfl) (P.mov .g8) rfl rfl ?_
    refine .dpu rfl (.n rfl) (P.mov .g6) rfl rfl ?_
    refine .dpu rfl (.n rfl) (P.bin .t1 .t0 .add) rfl rfl ?_
    obtain ⟨x14, hx15, hc5⟩ := bnd_eq hc5
    obtain ⟨i16, hi17, hx15⟩ := at_eq hx15
    have hi17_ : (IntKind.i64.wrap (a2 + s1.1)).toNat = i16 := by rw [hi17]; rfl
    refine .ixql .k0 (map_get hx15) fun p11 q12 hq13 => ?_
    refine .dpu rfl (.n rfl) (P.ixi (i := i16) .t0 hi17 .t0 hq13 runUnderlying68 sizeOf72) rfl rfl ?_
    refine .dpu rfl (.n rfl) (P.mov .g6) rfl rfl ?_
    refine .dpu rfl (.n rfl) (P.mov .g8) rfl rfl ?_
    refine .dpu rfl (.n rfl) (P.mov .g7) rfl rfl ?_
    refine .dpu rfl (.n rfl) (P.bin .t1 .t0 .add) rfl rfl ?_
    obtain ⟨x21, hx22, hc5⟩ := bnd_eq hc5
    obtain ⟨i23, hi24, hx22⟩ := at_eq hx22
    have hi24_ : (IntKind.i64.wrap (a1 + s1.1)).toNat = i23 := by rw [hi24]; rfl
    refine .ixql .k0 (map_get hx22) fun p18 q19 hq20 => ?_
    refine .dpu rfl (.n rfl) (P.ixi (i := i23) .t0 hi24 .t0 hq20 runUnderlying68 sizeOf72) rfl rfl ?_
    refine .dld rfl (.n rfl) (V.ldxl0 (u := Ag (clock_Stamp.cs x14)) .t1 hq13 .k0 (map_get hx15) (.agg isAgg72 sizeOf72 rfl rfl)) (fun _ h => h) rfl rfl ?_
    refine .dld rfl (.n rfl) (V.ldxl0 (u := Ag (clock_Stamp.cs x21)) .t1 hq20 .k0 (map_get hx22) (.agg isAgg72 sizeOf72 rfl rfl)) (fun _ h => h) rfl rfl ?_
    obtain ⟨x28, hx29, hc5⟩ := bnd_eq hc5
    obtain ⟨i30, hi31, hx29⟩ := at_eq hx29
    have hi31_ : (IntKind.i64.wrap (a1 + s1.1)).toNat = i30 := by rw [hi31]; rfl
    refine .ixql .k0 (map_get hx29) fun p25 q26 hq27 => ?_
    refine .dpu rfl (.n rfl) (P.ixi (i := i30) .t4 hi31 .t4 hq27 runUnderlying68 sizeOf72) rfl rfl ?_
    refine .dgo rfl (.n rfl) (G.stx (off := q26) (k := 0) (cs' := (clock_Stamp.cs x14)) .t2 .t0 hq27 .k0 (map_get hx29) (.mk sizeOf72 rfl rfl rfl rfl)) (.inl rfl) fun _ _ => ?_
    refine .conseq .k0 (q := lst 72 29 v00 (((s1.2.set ((IntKind.i64.wrap (a1 + s1.1)).toNat) (x14 : clock_Stamp))).map clock_Stamp.cs)) (fun _ h_ => by rw [hi31_]; simpa [List.map_set] using h_) ?_
    obtain ⟨x35, hx36, hc5⟩ := bnd_eq hc5
    obtain ⟨i37, hi38, hx36⟩ := at_eq hx36
    have hi38_ : (IntKind.i64.wrap (a2 + s1.1)).toNat = i37 := by rw [hi38]; rfl
    refine .ixql .k0 (map_get hx36) fun p32 q33 hq34 => ?_
    refine .dpu rfl (.n rfl) (P.ixi (i := i37) .t1 hi38 .t1 hq34 runUnderlying68 sizeOf72) rfl rfl ?_
    refine .dgo rfl (.n rfl) (G.stx (off := q33) (k := 0) (cs' := (clock_Stamp.cs x21)) .t1 .t0 hq34 .k0 (map_get hx36) (.mk sizeOf72 rfl rfl rfl rfl)) (.inl rfl) fun _ _ => ?_
    refine .conseq .k0 (q := lst 72 29 v00 (((((s1.2.set ((IntKind.i64.wrap (a1 + s1.1)).toNat) (x14 : clock_Stamp))).set ((IntKind.i64.wrap (a2 + s1.1)).toNat) (x21 : clock_Stamp))).map clock_Stamp.cs)) (fun _ h_ => by rw [hi38_]; simpa [List.map_set] using h_) ?_
    refine .dnil ?_
    refine .inn ?_
    refine .then ?_
    refine .reg rfl ?_
    refine .opp (P.mov .g0) rfl ?_
    refine .opp (P.bin .t0 .k .add) rfl ?_
    refine .drop .k1 ?_
    refine .opp (P.asg .t0) rfl ?_
    refine .nil ?_
    cases hc5
    obtain ⟨m39, hm40, hn6⟩ := hn6
    exact .rdW ((IntKind.i64.wrap (s1.1 + 1), (((s1.2.set ((IntKind.i64.wrap (a1 + s1.1)).toNat) (x14 : clock_Stamp))).set ((IntKind.i64.wrap (a2 + s1.1)).toNat) (x21 : clock_Stamp)))) () hm40 hn6 (.cons Mm.m0 (.cons Mm.m1 (.cons Mm.m2 (.cons Mm.m3 (.cons Mm.m4 .nil))))) (.of (.cons .k0 .nil)) .nil
  · rw [if_neg (ne_true_of_eq_false c10)] at hc5
    refine .exit ?_
    refine .thx ?_
    cases hc5
    refine .told (γ := Unit) h hn6 (fun (s1 : Int × (List clock_Stamp)) _ => [(10, N s1.1), (0, v00), (1, N a1), (2, N a2), (3, N a3)]) (fun (s1 : Int × (List clock_Stamp)) _ => [lst 72 29 v00 (s1.2.map clock_Stamp.cs)]) (fun (s1 : Int × (List clock_Stamp)) _ => []) () (.cons Mm.m0 (.cons Mm.m1 (.cons Mm.m2 (.cons Mm.m3 (.cons Mm.m4 .nil))))) (.of (.cons .k0 .nil)) .nil (fun s1 _ h' => ?_)
    replace h := h'
    refine .thx ?_
    refine .inb ?_
    cases h
    exact .finwn () (.r0 rfl) trivial (Ls.of (.cons .k0 .nil)) .nil
attribute [irreducible] slices_swapRangeCmpFunc_i220_m_f78
noncomputable def slices_rotateCmpFunc_i196_m_f78 (a0 : List clock_Stamp) (a1 : Int) (a2 : Int) (a3 : Int) : Option ((List clock_Stamp)) :=
  Option.bind (loopW (fun (s1 : Int × Int × (List clock_Stamp)) => if (decide (s1.2.1 ≠ s1.1)) = true then (if (decide (s1.2.1 > s1.1)) = true then (Option.bind (slices_swapRangeCmpFunc_i220_m_f78 s1.2.2 (IntKind.i64.wrap (a2 - s1.2.1)) a2 s1.1) fun r12 => some (.nx ((s1.1, IntKind.i64.wrap (s1.2.1 - s1.1), r12)))) else (Option.bind (slices_swapRangeCmpFunc_i220_m_f78 s1.2.2 (IntKind.i64.wrap (a2 - s1.2.1)) (IntKind.i64.wrap ((IntKind.i64.wrap (a2 + s1.1)) - s1.2.1)) s1.2.1) fun r16 => some (.nx ((IntKind.i64.wrap (s1.1 - s1.2.1), s1.2.1, r16))))) else (some (.br (s1.1, s1.2.1, s1.2.2)))) ((IntKind.i64.wrap (a3 - a2), IntKind.i64.wrap (a2 - a1), a0))) fun o3 => Lo.on o3 fun (s1 : Int × Int × (List clock_Stamp)) => Option.bind (slices_swapRangeCmpFunc_i220_m_f78 s1.2.2 (IntKind.i64.wrap (a2 - s1.2.1)) a2 s1.2.1) fun r20 => some r20
set_option maxRecDepth 20000 in
set_option maxHeartbeats 1000000 in
theorem S_slices_rotateCmpFunc_i196_m_f78 (v00 : Value) (a0 : List clock_Stamp) (a1 : Int) (a2 : Int) (a3 : Int) (r : (List clock_Stamp)) (h : slices_rotateCmpFunc_i196_m_f78 a0 a1 a2 a3 = some r) :
    SpecF Try.prog 196 [v00, N a1, N a2, N a3, fnv 78 []] [lst 72 29 v00 (a0.map clock_Stamp.cs)] [] (fun _ : Unit => True) (fun z => Tu []) (fun z M => lst 72 29 v00 (r.map clock_Stamp.cs) ::  M) (fun z M =>  M) := by
  refine .of func196 rfl ntmps196 rfl fun w0 D0 G0 => ?_
  unfold slices_rotateCmpFunc_i196_m_f78 at h
  refine .seq ?_
  refine .reg rfl ?_
  refine .opp (P.mov .g2) rfl ?_
  refine .opp (P.mov .t2) rfl ?_
  refine .opp (P.bin .t1 .t0 .sub) rfl ?_
  refine .opp (P.asg .t0) rfl ?_
  refine .nil ?_
  refine .then ?_
  refine .seq ?_
  refine .reg rfl ?_
  refine .opp (P.mov .t3) rfl ?_
  refine .opp (P.mov .g3) rfl ?_
  refine .opp (P.bin .t1 .t0 .sub) rfl ?_
  refine .opp (P.asg .t0) rfl ?_
  refine .nil ?_
  refine .then ?_
  refine .seq ?_
  refine .block ?_
  obtain ⟨o3, ho4, h⟩ := bnd_eq h
  refine .loopW (γ := Unit) (fun (s1 : Int × Int × (List clock_Stamp)) z2 => [(11, N s1.1), (10, N s1.2.1), (0, v00), (2, N a2), (4, fnv 78 [])]) (fun (s1 : Int × Int × (List clock_Stamp)) z2 => [lst 72 29 v00 (s1.2.2.map clock_Stamp.cs)]) (fun (s1 : Int × Int × (List clock_Stamp)) z2 => []) () ho4 (.cons Mm.m0 (.cons Mm.m1 (.cons Mm.m2 (.cons Mm.m3 (.cons Mm.m4 .nil))))) (.of (.cons .k0 .nil)) .nil (fun n9 s1 z2 hr7 => ?_)
  obtain ⟨ct8, hc5, hn6⟩ := loopK_at hr7
  refine .seq ?_
  refine .seq ?_
  refine .reg rfl ?_
  refine .opp (P.mov .g1) rfl ?_
  refine .opp (P.mov .g1) rfl ?_
  refine .opp (P.bin .t1 .t0 .neq) rfl ?_
  refine .nil ?_
  refine .then ?_
  refine .cond .t0 (fun c10 => ?_) (fun c10 => ?_)
  · rw [if_pos c10] at hc5
    refine .skip ?_
    refine .then ?_
    refine .block ?_
    refine .seq ?_
    refine .reg rfl ?_
    refine .opp (P.mov .g1) rfl ?_
    refine .opp (P.mov .g1) rfl ?_
    refine .opp (P.bin .t1 .t0 .gtr) rfl ?_
    refine .nil ?_
    refine .then ?_
    refine .cond .t0 (fun c11 => ?_) (fun c11 => ?_)
    · rw [if_pos c11] at hc5
      refine .seq ?_
      refine .reg rfl ?_
      refine .opp (P.mov .g2) rfl ?_
      refine .opp (P.mov .g4) rfl ?_
      refine .opp (P.mov .g3) rfl ?_
      refine .opp (P.bin .t1 .t0 .sub) rfl ?_
      refine .opp (P.mov .g5) rfl ?_
      refine .opp (P.mov .g3) rfl ?_
      refine .opp (P.mov .g8) rfl ?_
      obtain ⟨r12, hr13, hc5⟩ := bnd_eq hc5
      refine .opg (G.call call220 (.cons .t4 (.cons .t3 (.cons .t2 (.cons .t1 (.cons .t0 .nil))))) (S_slices_swapRangeCmpFunc_i220_m_f78 v00 s1.2.2 (IntKind.i64.wrap (a2 - s1.2.1)) a2 s1.1 r12 hr13) (.cons .k0 .nil) .nil (fun _ _ => rfl) (fun _ _ => rfl) rfl) rfl fun _ _ => ?_
      refine .drop .k0 ?_
      refine .nil ?_
      refine .then ?_
      refine .reg rfl ?_
      refine .opp (P.mov .g1) rfl ?_
      refine .opp (P.mov .g1) rfl ?_
      refine .opp (P.bin .t1 .t0 .sub) rfl ?_
      refine .drop .k2 ?_
      refine .opp (P.asg .t0) rfl ?_
      refine .nil ?_
      refine .inn ?_
      cases hc5
      obtain ⟨m14, hm15, hn6⟩ := hn6
      exact .rdW ((s1.1, IntKind.i64.wrap (s1.2.1 - s1.1), r12)) () hm15 hn6 (.cons Mm.m1 (.cons Mm.m0 (.cons Mm.m2 (.cons Mm.m3 (.cons Mm.m4 .nil))))) (.of (.cons .k0 .nil)) .nil
    · rw [if_neg (ne_true_of_eq_false c11)] at hc5
      refine .seq ?_
      refine .reg rfl ?_
      refine .opp (P.mov .g2) rfl ?_
      refine .opp (P.mov .g4) rfl ?_
      refine .opp (P.mov .g3) rfl ?_
      refine .opp (P.bin .t1 .t0 .sub) rfl ?_
      refine .opp (P.mov .g5) rfl ?_
      refine .opp (P.mov .g3) rfl ?_
      refine .opp (P.bin .t1 .t0 .add) rfl ?_
      refine .opp (P.mov .g4) rfl ?_
      refine .opp (P.bin .t1 .t0 .sub) rfl ?_
      refine .opp (P.mov .g4) rfl ?_
      refine .opp (P.mov .g8) rfl ?_
      obtain ⟨r16, hr17, hc5⟩ := bnd_eq hc5
      refine .opg (G.call call220 (.cons .t4 (.cons .t3 (.cons .t2 (.cons .t1 (.cons .t0 .nil))))) (S_slices_swapRangeCmpFunc_i220_m_f78 v00 s1.2.2 (IntKind.i64.wrap (a2 - s1.2.1)) (IntKind.i64.wrap ((IntKind.i64.wrap (a2 + s1.1)) - s1.2.1)) s1.2.1 r16 hr17) (.cons .k0 .nil) .nil (fun _ _ => rfl) (fun _ _ => rfl) rfl) rfl fun _ _ => ?_
      refine .drop .k0 ?_
      refine .nil ?_
      refine .then ?_
      refine .reg rfl ?_
      refine .opp (P.mov .g0) rfl ?_
      refine .opp (P.mov .g2) rfl ?_
      refine .opp (P.bin .t1 .t0 .sub) rfl ?_
      refine .drop .k1 ?_
      refine .opp (P.asg .t0) rfl ?_
      refine .nil ?_
      refine .inn ?_
      cases hc5
      obtain ⟨m18, hm19, hn6⟩ := hn6
      exact .rdW ((IntKind.i64.wrap (s1.1 - s1.2.1), s1.2.1, r16)) () hm19 hn6 (.cons Mm.m0 (.cons Mm.m1 (.cons Mm.m2 (.cons Mm.m3 (.cons Mm.m4 .nil))))) (.of (.cons .k0 .nil)) .nil
  · rw [if_neg (ne_true_of_eq_false c10)] at hc5
    refine .exit ?_
    refine .thx ?_
    cases hc5
    refine .told (γ := Unit) h hn6 (fun (s1 : Int × Int × (List clock_Stamp)) _ => [(11, N s1.1), (10, N s1.2.1), (0, v00), (2, N a2), (4, fnv 78 [])]) (fun (s1 : Int × Int × (List clock_Stamp)) _ => [lst 72 29 v00 (s1.2.2.map clock_Stamp.cs)]) (fun (s1 : Int × Int × (List clock_Stamp)) _ => []) () (.cons Mm.m0 (.cons Mm.m1 (.cons Mm.m2 (.cons Mm.m3 (.cons Mm.m4 .nil))))) (.of (.cons .k0 .nil)) .nil (fun s1 _ h' => ?_)
    replace h := h'
    refine .thx ?_
    refine .inb ?_
    refine .then ?_
    refine .reg rfl ?_
    refine .opp (P.mov .t2) rfl ?_
    refine .opp (P.mov .g3) rfl ?_
    refine .opp (P.mov .g3) rfl ?_
    refine .opp (P.bin .t1 .t0 .sub) rfl ?_
    refine .opp (P.mov .t4) rfl ?_
    refine .opp (P.mov .t4) rfl ?_
    refine .opp (P.mov .t5) rfl ?_
    obtain ⟨r20, hr21, h⟩ := bnd_eq h
    refine .opg (G.call call220 (.cons .t4 (.cons .t3 (.cons .t2 (.cons .t1 (.cons .t0 .nil))))) (S_slices_swapRangeCmpFunc_i220_m_f78 v00 s1.2.2 (IntKind.i64.wrap (a2 - s1.2.1)) a2 s1.2.1 r20 hr21) (.cons .k0 .nil) .nil (fun _ _ => rfl) (fun _ _ => rfl) rfl) rfl fun _ _ => ?_
    refine .drop .k0 ?_
    refine .nil ?_
    cases h
    exact .finwn () (.r0 rfl) trivial (Ls.of (.cons .k0 .nil)) .nil
attribute [irreducible] slices_rotateCmpFunc_i196_m_f78
noncomputable def slices_symMergeCmpFunc_i168_m_f78_k (n_ : Nat) (a0 : List clock_Stamp) (a1 : Int) (a2 : Int) (a3 : Int) : Option ((List clock_Stamp)) :=
  match n_ with
  | 0 => none
  | n_ + 1 => if (decide ((IntKind.i64.wrap (a2 - a1)) = 1)) = true then (Option.bind (loopW (fun (s2 : Int × Int) => if (decide (s2.2 < s2.1)) = true then (Option.bind (at_ a0 (IntKind.i64.wrap ((rshU (Ui (IntKind.i64.wrap (s2.2 + s2.1))) 1).toNat : Int))) fun (x15 : clock_Stamp) => Option.bind (at_ a0 a1) fun (x22 : clock_Stamp) => if (decide (((clock_Merge_1 x15 x22)) < 0)) = true then (some (.nx ((s2.1, IntKind.i64.wrap ((IntKind.i64.wrap ((rshU (Ui (IntKind.i64.wrap (s2.2 + s2.1))) 1).toNat : Int)) + 1))))) else (some (.nx ((IntKind.i64.wrap ((rshU (Ui (IntKind.i64.wrap (s2.2 + s2.1))) 1).toNat : Int), s2.2))))) else (some (.br (s2.1, s2.2)))) (a3, a2)) fun o4 => Lo.on o4 fun (s2 : Int × Int) => Option.bind (loopW (fun (s31 : Int × (List clock_Stamp)) => if (decide (s31.1 < (IntKind.i64.wrap (s2.2 - 1)))) = true then (Option.bind (at_ s31.2 (IntKind.i64.wrap (s31.1 + 1))) fun (x44 : clock_Stamp) => Option.bind (at_ s31.2 s31.1) fun (x51 : clock_Stamp) => Option.bind (at_ s31.2 s31.1) fun (x58 : clock_Stamp) => Option.bind (at_ ((s31.2.set ((s31.1).toNat) (x44 : clock_Stamp))) (IntKind.i64.wrap (s31.1 + 1))) fun (x65 : clock_Stamp) => some (.nx ((IntKind.i64.wrap (s31.1 + 1), (((s31.2.set ((s31.1).toNat) (x44 : clock_Stamp))).set ((IntKind.i64.wrap (s31.1 + 1)).toNat) (x51 : clock_Stamp)))))) else (some (.br (s31.1, s31.2)))) (a1, a0)) fun o33 => Lo.on o33 fun (s31 : Int × (List clock_Stamp)) => some s31.2) else (if (decide ((IntKind.i64.wrap (a3 - a2)) = 1)) = true then (Option.bind (loopW (fun (s72 : Int × Int) => if (decide (s72.2 < s72.1)) = true then (Option.bind (at_ a0 a2) fun (x85 : clock_Stamp) => Option.bind (at_ a0 (IntKind.i64.wrap ((rshU (Ui (IntKind.i64.wrap (s72.2 + s72.1))) 1).toNat : Int))) fun (x92 : clock_Stamp) => if (!(decide (((clock_Merge_1 x85 x92)) < 0))) = true then (some (.nx ((s72.1, IntKind.i64.wrap ((IntKind.i64.wrap ((rshU (Ui (IntKind.i64.wrap (s72.2 + s72.1))) 1).toNat : Int)) + 1))))) else (some (.nx ((IntKind.i64.wrap ((rshU (Ui (IntKind.i64.wrap (s72.2 + s72.1))) 1).toNat : Int), s72.2))))) else (some (.br (s72.1, s72.2)))) (a2, a1)) fun o74 => Lo.on o74 fun (s72 : Int × Int) => Option.bind (loopW (fun (s101 : Int × (List clock_Stamp)) => if (decide (s101.1 > s72.2)) = true then (Option.bind (at_ s101.2 (IntKind.i64.wrap (s101.1 - 1))) fun (x114 : clock_Stamp) => Option.bind (at_ s101.2 s101.1) fun (x121 : clock_Stamp) => Option.bind (at_ s101.2 s101.1) fun (x128 : clock_Stamp) => Option.bind (at_ ((s101.2.set ((s101.1).toNat) (x114 : clock_Stamp))) (IntKind.i64.wrap (s101.1 - 1))) fun (x135 : clock_Stamp) => some (.nx ((IntKind.i64.wrap (s101.1 - 1), (((s101.2.set ((s101.1).toNat) (x114 : clock_Stamp))).set ((IntKind.i64.wrap (s101.1 - 1)).toNat) (x121 : clock_Stamp)))))) else (some (.br (s101.1, s101.2)))) (a2, a0)) fun o103 => Lo.on o103 fun (s101 : Int × (List clock_Stamp)) => some s101.2) else (thn (if (decide (a2 > (IntKind.i64.wrap ((rshU (Ui (IntKind.i64.wrap (a1 + a3))) 1).toNat : Int)))) = true then ((IntKind.i64.wrap ((rshU (Ui (IntKind.i64.wrap (a1 + a3))) 1).toNat : Int), IntKind.i64.wrap ((IntKind.i64.wrap ((IntKind.i64.wrap ((rshU (Ui (IntKind.i64.wrap (a1 + a3))) 1).toNat : Int)) + a2)) - a3))) else (a2, a1)) fun (y141 : Int × Int) => Option.bind (loopW (fun (s145 : Int × Int) => if (decide (s145.2 < s145.1)) = true then (Option.bind (at_ a0 (IntKind.i64.wrap ((IntKind.i64.wrap ((IntKind.i64.wrap ((IntKind.i64.wrap ((rshU (Ui (IntKind.i64.wrap (a1 + a3))) 1).toNat : Int)) + a2)) - 1)) - (IntKind.i64.wrap ((rshU (Ui (IntKind.i64.wrap (s145.2 + s145.1))) 1).toNat : Int))))) fun (x158 : clock_Stamp) => Option.bind (at_ a0 (IntKind.i64.wrap ((rshU (Ui (IntKind.i64.wrap (s145.2 + s145.1))) 1).toNat : Int))) fun (x165 : clock_Stamp) => if (!(decide (((clock_Merge_1 x158 x165)) < 0))) = true then (some (.nx ((s145.1, IntKind.i64.wrap ((IntKind.i64.wrap ((rshU (Ui (IntKind.i64.wrap (s145.2 + s145.1))) 1).toNat : Int)) + 1))))) else (some (.nx ((IntKind.i64.wrap ((rshU (Ui (IntKind.i64.wrap (s145.2 + s145.1))) 1).toNat : Int), s145.2))))) else (some (.br (s145.1, s145.2)))) (y141.1, y141.2)) fun o147 => Lo.on o147 fun (s145 : Int × Int) => Option.bind (thn (if (decide (s145.2 < a2)) = true then (decide (a2 < (IntKind.i64.wrap ((IntKind.i64.wrap ((IntKind.i64.wrap ((rshU (Ui (IntKind.i64.wrap (a1 + a3))) 1).toNat : Int)) + a2)) - s145.2)))) else false) fun (y177 : Bool) => if y177 = true then (Option.bind (slices_rotateCmpFunc_i196_m_f78 a0 s145.2 a2 (IntKind.i64.wrap ((IntKind.i64.wrap ((IntKind.i64.wrap ((rshU (Ui (IntKind.i64.wrap (a1 + a3))) 1).toNat : Int)) + a2)) - s145.2))) fun r182 => some r182) else (some a0)) fun (y174 : (List clock_Stamp)) => Option.bind (thn (if (decide (a1 < s145.2)) = true then (decide (s145.2 < (IntKind.i64.wrap ((rshU (Ui (IntKind.i64.wrap (a1 + a3))) 1).toNat : Int)))) else false) fun (y187 : Bool) => if y187 = true then (Option.bind (slices_symMergeCmpFunc_i168_m_f78_k n_ y174 a1 s145.2 (IntKind.i64.wrap ((rshU (Ui (IntKind.i64.wrap (a1 + a3))) 1).toNat : Int))) fun r192 => some r192) else (some y174)) fun (y184 : (List clock_Stamp)) => thn (if (decide ((IntKind.i64.wrap ((rshU (Ui (IntKind.i64.wrap (a1 + a3))) 1).toNat : Int)) < (IntKind.i64.wrap ((IntKind.i64.wrap ((IntKind.i64.wrap ((rshU (Ui (IntKind.i64.wrap (a1 + a3))) 1).toNat : Int)) + a2)) - s145.2)))) = true then (decide ((IntKind.i64.wrap ((IntKind.i64.wrap ((IntKind.i64.wrap ((rshU (Ui (IntKind.i64.wrap (a1 + a3))) 1).toNat : Int)) + a2)) - s145.2)) < a3)) else false) fun (y194 : Bool) => if y194 = true then (Option.bind (slices_symMergeCmpFunc_i168_m_f78_k n_ y184 (IntKind.i64.wrap ((rshU (Ui (IntKind.i64.wrap (a1 + a3))) 1).toNat : Int)) (IntKind.i64.wrap ((IntKind.i64.wrap ((IntKind.i64.wrap ((rshU (Ui (IntKind.i64.wrap (a1 + a3))) 1).toNat : Int)) + a2)) - s145.2)) a3) fun r199 => some r199) else (some y184)))
set_option maxRecDepth 20000 in
set_option maxHeartbeats 1000000 in
theorem S_slices_symMergeCmpFunc_i168_m_f78 : ∀ (n_ : Nat) (v00 : Value) (a0 : List clock_Stamp) (a1 : Int) (a2 : Int) (a3 : Int) (r : (List clock_Stamp)) (h : slices_symMergeCmpFunc_i168_m_f78_k n_ a0 a1 a2 a3 = some r),
    SpecF Try.prog 168 [v00, N a1, N a2, N a3, fnv 78 []] [lst 72 29 v00 (a0.map clock_Stamp.cs)] [] (fun _ : Unit => True) (fun z => Tu []) (fun z M => lst 72 29 v00 (r.map clock_Stamp.cs) ::  M) (fun z M =>  M) := by
  intro n_
  induction n_ with
  | zero => intro v00 a0 a1 a2 a3 r h; rw [slices_symMergeCmpFunc_i168_m_f78_k] at h; cases h
  | succ n_ ih =>
  intro v00 a0 a1 a2 a3 r h
  refine .of func168 rfl ntmps168 rfl fun w0 D0 G0 => ?_
  rw [slices_symMergeCmpFunc_i168_m_f78_k] at h
  refine .seq ?_
  refine .seq ?_
  refine .reg rfl ?_
  refine .opp (P.mov .g2) rfl ?_
  refine .opp (P.mov .g2) rfl ?_
  refine .opp (P.bin .t1 .t0 .sub) rfl ?_
  refine .opp (P.bin .t0 .k .eql) rfl ?_
  refine .nil ?_
  refine .then ?_
  refine .cond .t0 (fun c1 => ?_) (fun c1 => ?_)
  · rw [if_pos c1] at h
    refine .seq ?_
    refine .reg rfl ?_
    refine .opp (P.mov .t2) rfl ?_
    refine .opp (P.asg .t0) rfl ?_
    refine .nil ?_
    refine .then ?_
    refine .seq ?_
    refine .reg rfl ?_
    refine .opp (P.mov .t3) rfl ?_
    refine .opp (P.asg .t0) rfl ?_
    refine .nil ?_
    refine .then ?_
    refine .seq ?_
    refine .block ?_
    obtain ⟨o4, ho5, h⟩ := bnd_eq h
    refine .loopW (γ := Unit) (fun (s2 : Int × Int) z3 => [(11, N s2.1), (10, N s2.2), (0, v00), (1, N a1), (4, fnv 78 [])]) (fun (s2 : Int × Int) z3 => [lst 72 29 v00 (a0.map clock_Stamp.cs)]) (fun (s2 : Int × Int) z3 => []) () ho5 (.cons Mm.m0 (.cons Mm.m1 (.cons Mm.m2 (.cons Mm.m3 (.cons Mm.m4 .nil))))) (.of (.cons .k0 .nil)) .nil (fun n10 s2 z3 hr8 => ?_)
    obtain ⟨ct9, hc6, hn7⟩ := loopK_at hr8
    refine .seq ?_
    refine .seq ?_
    refine .reg rfl ?_
    refine .opp (P.mov .g1) rfl ?_
    refine .opp (P.mov .g1) rfl ?_
    refine .opp (P.bin .t1 .t0 .lss) rfl ?_
    refine .nil ?_
    refine .then ?_
    refine .cond .t0 (fun c11 => ?_) (fun c11 => ?_)
    · rw [if_pos c11] at hc6
      refine .skip ?_
      refine .then ?_
      refine .block ?_
      refine .seq ?_
      refine .reg rfl ?_
      refine .opp (P.mov .g1) rfl ?_
      refine .opp (P.mov .g1) rfl ?_
      refine .opp (P.bin .t1 .t0 .add) rfl ?_
      refine .opp (P.cnvU (m := IntKind.i64.wrap (s2.2 + s2.1)) .t0 runUnderlying3 runUnderlying246) rfl ?_
      refine .opp (P.bin .t0 .k (BinV.shrU (x := Ui (IntKind.i64.wrap (s2.2 + s2.1))) (n := 1) (by decide))) rfl ?_
      refine .opp (P.cnv (m := ((rshU (Ui (IntKind.i64.wrap (s2.2 + s2.1))) 1).toNat : Int)) .t0 runUnderlying246 runUnderlying3) rfl ?_
      refine .opp (P.asg .t0) rfl ?_
      refine .nil ?_
      refine .then ?_
      refine .seq ?_
      refine .draw 11 (.on 0 .pu (.on 1 .pu (.on 2 .pu (.on 3 .pu (.on 5 .pu (.on 6 .pu (.on 7 .pu (.on 4 .ld (.on 8 .ld (.on 9 .go (.on 10 .pu .nl))))))))))) follows_mixed (.thn (.inb (.thn (.inb (.thn (.thn .body)))))) (by kernel_rfl) ?_
      refine .dpu rfl (.n rfl) (P.mov .g5) rfl rfl ?_
      refine .dpu rfl (.n rfl) (P.mov .g4) rfl rfl ?_
      refine .dpu rfl (.n rfl) (P.mov .g2) rfl rfl ?_
      obtain ⟨x15, hx16, hc6⟩ := bnd_eq hc6
      obtain ⟨i17, hi18, hx16⟩ := at_eq hx16
      have hi18_ : (IntKind.i64.wrap ((rshU (Ui (IntKind.i64.wrap (s2.2 + s2.1))) 1).toNat : Int)).toNat = i17 := by rw [hi18]; rfl
      refine .ixql .k0 (map_get hx16) fun p12 q13 hq14 => ?_
      refine .dpu rfl (.n rfl) (P.ixi (i := i17) .t0 hi18 .t0 hq14 runUnderlying68 sizeOf72) rfl rfl ?_
      refine .dpu rfl (.n rfl) (P.mov .g5) rfl rfl ?_
      refine .dpu rfl (.n rfl) (P.mov .g7) rfl rfl ?_
      obtain ⟨x22, hx23, hc6⟩ := bnd_eq hc6
      obtain ⟨i24, hi25, hx23⟩ := at_eq hx23
      have hi25_ : (a1).toNat = i24 := by rw [hi25]; rfl
      refine .ixql .k0 (map_get hx23) fun p19 q20 hq21 => ?_
      refine .dpu rfl (.n rfl) (P.ixi (i := i24) .t0 hi25 .t0 hq21 runUnderlying68 sizeOf72) rfl rfl ?_
      refine .dld rfl (.n rfl) (V.ldxl0 (u := Ag (clock_Stamp.cs x15)) .t1 hq14 .k0 (map_get hx16) (.agg isAgg72 sizeOf72 rfl rfl)) (fun _ h => h) rfl rfl ?_
      refine .dld rfl (.n rfl) (V.ldxl0 (u := Ag (clock_Stamp.cs x22)) .t1 hq21 .k0 (map_get hx23) (.agg isAgg72 sizeOf72 rfl rfl)) (fun _ h => h) rfl rfl ?_
      refine .dgo rfl (.n rfl) (G.callv call78 .t2 (.cons .t1 (.cons .t0 .nil)) (S_clock_Merge_1 x15 x22 _ rfl) .nil .nil (fun _ _ => rfl) (fun _ _ => rfl) rfl) (.inr fun _ _ _ h => h) fun _ _ => ?_
      refine .dpu rfl (.n rfl) (P.bin .t0 .k .lss) rfl rfl ?_
      refine .dnil ?_
      refine .then ?_
      refine .cond .t0 (fun c26 => ?_) (fun c26 => ?_)
      · rw [if_pos c26] at hc6
        refine .reg rfl ?_
        refine .opp (P.mov .t0) rfl ?_
        refine .opp (P.bin .t0 .k .add) rfl ?_
        refine .drop .k2 ?_
        refine .opp (P.asg .t0) rfl ?_
        refine .nil ?_
        refine .inn ?_
        cases hc6
        obtain ⟨m27, hm28, hn7⟩ := hn7
        exact .rdW ((s2.1, IntKind.i64.wrap ((IntKind.i64.wrap ((rshU (Ui (IntKind.i64.wrap (s2.2 + s2.1))) 1).toNat : Int)) + 1))) () hm28 hn7 (.cons Mm.m1 (.cons Mm.m0 (.cons Mm.m2 (.cons Mm.m3 (.cons Mm.m4 .nil))))) (.of (.cons .k0 .nil)) .nil
      · rw [if_neg (ne_true_of_eq_false c26)] at hc6
        refine .reg rfl ?_
        refine .opp (P.mov .t0) rfl ?_
        refine .drop .k1 ?_
        refine .opp (P.asg .t0) rfl ?_
        refine .nil ?_
        refine .inn ?_
        cases hc6
        obtain ⟨m29, hm30, hn7⟩ := hn7
        exact .rdW ((IntKind.i64.wrap ((rshU (Ui (IntKind.i64.wrap (s2.2 + s2.1))) 1).toNat : Int), s2.2)) () hm30 hn7 (.cons Mm.m0 (.cons Mm.m1 (.cons Mm.m2 (.cons Mm.m3 (.cons Mm.m4 .nil))))) (.of (.cons .k0 .nil)) .nil
    · rw [if_neg (ne_true_of_eq_false c11)] at hc6
      refine .exit ?_
      refine .thx ?_
      cases hc6
      refine .told (γ := Unit) h hn7 (fun (s2 : Int × Int) _ => [(11, N s2.1), (10, N s2.2), (0, v00), (1, N a1), (4, fnv 78 [])]) (fun (s2 : Int × Int) _ => [lst 72 29 v00 (a0.map clock_Stamp.cs)]) (fun (s2 : Int × Int) _ => []) () (.cons Mm.m0 (.cons Mm.m1 (.cons Mm.m2 (.cons Mm.m3 (.cons Mm.m4 .nil))))) (.of (.cons .k0 .nil)) .nil (fun s2 _ h' => ?_)
      replace h := h'
      refine .thx ?_
      refine .inb ?_
      refine .then ?_
      refine .seq ?_
      refine .seq ?_
      refine .reg rfl ?_
      refine .opp (P.mov .t3) rfl ?_
      refine .opp (P.asg .t0) rfl ?_
      refine .nil ?_
      refine .then ?_
      refine .block ?_
      obtain ⟨o33, ho34, h⟩ := bnd_eq h
      refine .loopW (γ := Unit) (fun (s31 : Int × (List clock_Stamp)) z32 => [(13, N s31.1), (10, N s2.2), (0, v00)]) (fun (s31 : Int × (List clock_Stamp)) z32 => [lst 72 29 v00 (s31.2.map clock_Stamp.cs)]) (fun (s31 : Int × (List clock_Stamp)) z32 => []) () ho34 (.cons Mm.m0 (.cons Mm.m2 (.cons Mm.m3 .nil))) (.of (.cons .k0 .nil)) .nil (fun n39 s31 z32 hr37 => ?_)
      obtain ⟨ct38, hc35, hn36⟩ := loopK_at hr37
      refine .seq ?_
      refine .seq ?_
      refine .reg rfl ?_
      refine .opp (P.mov .g0) rfl ?_
      refine .opp (P.mov .g2) rfl ?_
      refine .opp (P.bin .t0 .k .sub) rfl ?_
      refine .opp (P.bin .t1 .t0 .lss) rfl ?_
      refine .nil ?_
      refine .then ?_
      refine .cond .t0 (fun c40 => ?_) (fun c40 => ?_)
      · rw [if_pos c40] at hc35
        refine .skip ?_
        refine .then ?_
        refine .seq ?_
        refine .block ?_
        refine .draw 15 (.on 0 .pu (.on 1 .pu (.on 2 .pu (.on 3 .pu (.on 4 .pu (.on 5 .pu (.on 6 .pu (.on 7 .pu (.on 8 .pu (.on 10 .pu (.on 11 .pu (.on 12 .pu (.on 9 .ld (.on 13 .ld (.on 14 .pu (.on 15 .go (.on 16 .pu (.on 17 .go .nl)))))))))))))))))) follows_mixed (.inb (.thn (.thn (.inb (.thn (.thn .body)))))) (by kernel_rfl) ?_
        refine .dpu rfl (.n rfl) (P.mov .g2) rfl rfl ?_
        refine .dpu rfl (.n rfl) (P.mov .g1) rfl rfl ?_
        refine .dpu rfl (.n rfl) (P.mov .g4) rfl rfl ?_
        refine .dpu rfl (.n rfl) (P.mov .g3) rfl rfl ?_
        refine .dpu rfl (.n rfl) (P.bin .t0 .k .add) rfl rfl ?_
        refine .dpu rfl (.n rfl) (P.mov .g6) rfl rfl ?_
        refine .dpu rfl (.n rfl) (P.mov .g5) rfl rfl ?_
        refine .dpu rfl (.n rfl) (P.bin .t0 .k .add) rfl rfl ?_
        obtain ⟨x44, hx45, hc35⟩ := bnd_eq hc35
        obtain ⟨i46, hi47, hx45⟩ := at_eq hx45
        have hi47_ : (IntKind.i64.wrap (s31.1 + 1)).toNat = i46 := by rw [hi47]; rfl
        refine .ixql .k0 (map_get hx45) fun p41 q42 hq43 => ?_
        refine .dpu rfl (.n rfl) (P.ixi (i := i46) .t0 hi47 .t0 hq43 runUnderlying68 sizeOf72) rfl rfl ?_
        refine .dpu rfl (.n rfl) (P.mov .g7) rfl rfl ?_
        refine .dpu rfl (.n rfl) (P.mov .g6) rfl rfl ?_
        obtain ⟨x51, hx52, hc35⟩ := bnd_eq hc35
        obtain ⟨i53, hi54, hx52⟩ := at_eq hx52
        have hi54_ : (s31.1).toNat = i53 := by rw [hi54]; rfl
        refine .ixql .k0 (map_get hx52) fun p48 q49 hq50 => ?_
        refine .dpu rfl (.n rfl) (P.ixi (i := i53) .t0 hi54 .t0 hq50 runUnderlying68 sizeOf72) rfl rfl ?_
        refine .dld rfl (.n rfl) (V.ldxl0 (u := Ag (clock_Stamp.cs x44)) .t1 hq43 .k0 (map_get hx45) (.agg isAgg72 sizeOf72 rfl rfl)) (fun _ h => h) rfl rfl ?_
        refine .dld rfl (.n rfl) (V.ldxl0 (u := Ag (clock_Stamp.cs x51)) .t1 hq50 .k0 (map_get hx52) (.agg isAgg72 sizeOf72 rfl rfl)) (fun _ h => h) rfl rfl ?_
        obtain ⟨x58, hx59, hc35⟩ := bnd_eq hc35
        obtain ⟨i60, hi61, hx59⟩ := at_eq hx59
        have hi61_ : (s31.1).toNat = i60 := by rw [hi61]; rfl
        refine .ixql .k0 (map_get hx59) fun p55 q56 hq57 => ?_
        refine .dpu rfl (.n rfl) (P.ixi (i := i60) .t4 hi61 .t4 hq57 runUnderlying68 sizeOf72) rfl rfl ?_
        refine .dgo rfl (.n rfl) (G.stx (off := q56) (k := 0) (cs' := (clock_Stamp.cs x44)) .t2 .t0 hq57 .k0 (map_get hx59) (.mk sizeOf72 rfl rfl rfl rfl)) (.inl rfl) fun _ _ => ?_
        refine .conseq .k0 (q := lst 72 29 v00 (((s31.2.set ((s31.1).toNat) (x44 : clock_Stamp))).map clock_Stamp.cs)) (fun _ h_ => by rw [hi61_]; simpa [List.map_set] using h_) ?_
        obtain ⟨x65, hx66, hc35⟩ := bnd_eq hc35
        obtain ⟨i67, hi68, hx66⟩ := at_eq hx66
        have hi68_ : (IntKind.i64.wrap (s31.1 + 1)).toNat = i67 := by rw [hi68]; rfl
        refine .ixql .k0 (map_get hx66) fun p62 q63 hq64 => ?_
        refine .dpu rfl (.n rfl) (P.ixi (i := i67) .t1 hi68 .t1 hq64 runUnderlying68 sizeOf72) rfl rfl ?_
        refine .dgo rfl (.n rfl) (G.stx (off := q63) (k := 0) (cs' := (clock_Stamp.cs x51)) .t1 .t0 hq64 .k0 (map_get hx66) (.mk sizeOf72 rfl rfl rfl rfl)) (.inl rfl) fun _ _ => ?_
        refine .conseq .k0 (q := lst 72 29 v00 (((((s31.2.set ((s31.1).toNat) (x44 : clock_Stamp))).set ((IntKind.i64.wrap (s31.1 + 1)).toNat) (x51 : clock_Stamp))).map clock_Stamp.cs)) (fun _ h_ => by rw [hi68_]; simpa [List.map_set] using h_) ?_
        refine .dnil ?_
        refine .inn ?_
        refine .then ?_
        refine .reg rfl ?_
        refine .opp (P.mov .g0) rfl ?_
        refine .opp (P.bin .t0 .k .add) rfl ?_
        refine .drop .k1 ?_
        refine .opp (P.asg .t0) rfl ?_
        refine .nil ?_
        cases hc35
        obtain ⟨m69, hm70, hn36⟩ := hn36
        exact .rdW ((IntKind.i64.wrap (s31.1 + 1), (((s31.2.set ((s31.1).toNat) (x44 : clock_Stamp))).set ((IntKind.i64.wrap (s31.1 + 1)).toNat) (x51 : clock_Stamp)))) () hm70 hn36 (.cons Mm.m0 (.cons Mm.m1 (.cons Mm.m2 .nil))) (.of (.cons .k0 .nil)) .nil
      · rw [if_neg (ne_true_of_eq_false c40)] at hc35
        refine .exit ?_
        refine .thx ?_
        cases hc35
        refine .told (γ := Unit) h hn36 (fun (s31 : Int × (List clock_Stamp)) _ => [(13, N s31.1), (10, N s2.2), (0, v00)]) (fun (s31 : Int × (List clock_Stamp)) _ => [lst 72 29 v00 (s31.2.map clock_Stamp.cs)]) (fun (s31 : Int × (List clock_Stamp)) _ => []) () (.cons Mm.m0 (.cons Mm.m1 (.cons Mm.m2 .nil))) (.of (.cons .k0 .nil)) .nil (fun s31 _ h' => ?_)
        replace h := h'
        refine .thx ?_
        refine .inb ?_
        refine .then ?_
        refine .ret ?_
        refine .thr ?_
        cases h
        exact .finw () (.r0 rfl) trivial (Ls.of (.cons .k0 .nil)) .nil
  · rw [if_neg (ne_true_of_eq_false c1)] at h
    refine .skip ?_
    refine .then ?_
    refine .seq ?_
    refine .seq ?_
    refine .reg rfl ?_
    refine .opp (P.mov .g3) rfl ?_
    refine .opp (P.mov .g3) rfl ?_
    refine .opp (P.bin .t1 .t0 .sub) rfl ?_
    refine .opp (P.bin .t0 .k .eql) rfl ?_
    refine .nil ?_
    refine .then ?_
    refine .cond .t0 (fun c71 => ?_) (fun c71 => ?_)
    · rw [if_pos c71] at h
      refine .seq ?_
      refine .reg rfl ?_
      refine .opp (P.mov .t1) rfl ?_
      refine .opp (P.asg .t0) rfl ?_
      refine .nil ?_
      refine .then ?_
      refine .seq ?_
      refine .reg rfl ?_
      refine .opp (P.mov .g2) rfl ?_
      refine .opp (P.asg .t0) rfl ?_
      refine .nil ?_
      refine .then ?_
      refine .seq ?_
      refine .block ?_
      obtain ⟨o74, ho75, h⟩ := bnd_eq h
      refine .loopW (γ := Unit) (fun (s72 : Int × Int) z73 => [(15, N s72.1), (14, N s72.2), (0, v00), (2, N a2), (4, fnv 78 [])]) (fun (s72 : Int × Int) z73 => [lst 72 29 v00 (a0.map clock_Stamp.cs)]) (fun (s72 : Int × Int) z73 => []) () ho75 (.cons Mm.m0 (.cons Mm.m1 (.cons Mm.m2 (.cons Mm.m3 (.cons Mm.m5 .nil))))) (.of (.cons .k0 .nil)) .nil (fun n80 s72 z73 hr78 => ?_)
      obtain ⟨ct79, hc76, hn77⟩ := loopK_at hr78
      refine .seq ?_
      refine .seq ?_
      refine .reg rfl ?_
      refine .opp (P.mov .g1) rfl ?_
      refine .opp (P.mov .g1) rfl ?_
      refine .opp (P.bin .t1 .t0 .lss) rfl ?_
      refine .nil ?_
      refine .then ?_
      refine .cond .t0 (fun c81 => ?_) (fun c81 => ?_)
      · rw [if_pos c81] at hc76
        refine .skip ?_
        refine .then ?_
        refine .block ?_
        refine .seq ?_
        refine .reg rfl ?_
        refine .opp (P.mov .g1) rfl ?_
        refine .opp (P.mov .g1) rfl ?_
        refine .opp (P.bin .t1 .t0 .add) rfl ?_
        refine .opp (P.cnvU (m := IntKind.i64.wrap (s72.2 + s72.1)) .t0 runUnderlying3 runUnderlying246) rfl ?_
        refine .opp (P.bin .t0 .k (BinV.shrU (x := Ui (IntKind.i64.wrap (s72.2 + s72.1))) (n := 1) (by decide))) rfl ?_
        refine .opp (P.cnv (m := ((rshU (Ui (IntKind.i64.wrap (s72.2 + s72.1))) 1).toNat : Int)) .t0 runUnderlying246 runUnderlying3) rfl ?_
        refine .opp (P.asg .t0) rfl ?_
        refine .nil ?_
        refine .then ?_
        refine .seq ?_
        refine .draw 12 (.on 0 .pu (.on 1 .pu (.on 2 .pu (.on 3 .pu (.on 5 .pu (.on 6 .pu (.on 7 .pu (.on 4 .ld (.on 8 .ld (.on 9 .go (.on 10 .pu (.on 11 .pu .nl)))))))))))) follows_mixed (.thn (.inb (.thn (.inb (.thn (.thn .body)))))) (by kernel_rfl) ?_
        refine .dpu rfl (.n rfl) (P.mov .g5) rfl rfl ?_
        refine .dpu rfl (.n rfl) (P.mov .g4) rfl rfl ?_
        refine .dpu rfl (.n rfl) (P.mov .g6) rfl rfl ?_
        obtain ⟨x85, hx86, hc76⟩ := bnd_eq hc76
        obtain ⟨i87, hi88, hx86⟩ := at_eq hx86
        have hi88_ : (a2).toNat = i87 := by rw [hi88]; rfl
        refine .ixql .k0 (map_get hx86) fun p82 q83 hq84 => ?_
        refine .dpu rfl (.n rfl) (P.ixi (i := i87) .t0 hi88 .t0 hq84 runUnderlying68 sizeOf72) rfl rfl ?_
        refine .dpu rfl (.n rfl) (P.mov .g5) rfl rfl ?_
        refine .dpu rfl (.n rfl) (P.mov .g3) rfl rfl ?_
        obtain ⟨x92, hx93, hc76⟩ := bnd_eq hc76
        obtain ⟨i94, hi95, hx93⟩ := at_eq hx93
        have hi95_ : (IntKind.i64.wrap ((rshU (Ui (IntKind.i64.wrap (s72.2 + s72.1))) 1).toNat : Int)).toNat = i94 := by rw [hi95]; rfl
        refine .ixql .k0 (map_get hx93) fun p89 q90 hq91 => ?_
        refine .dpu rfl (.n rfl) (P.ixi (i := i94) .t0 hi95 .t0 hq91 runUnderlying68 sizeOf72) rfl rfl ?_
        refine .dld rfl (.n rfl) (V.ldxl0 (u := Ag (clock_Stamp.cs x85)) .t1 hq84 .k0 (map_get hx86) (.agg isAgg72 sizeOf72 rfl rfl)) (fun _ h => h) rfl rfl ?_
        refine .dld rfl (.n rfl) (V.ldxl0 (u := Ag (clock_Stamp.cs x92)) .t1 hq91 .k0 (map_get hx93) (.agg isAgg72 sizeOf72 rfl rfl)) (fun _ h => h) rfl rfl ?_
        refine .dgo rfl (.n rfl) (G.callv call78 .t2 (.cons .t1 (.cons .t0 .nil)) (S_clock_Merge_1 x85 x92 _ rfl) .nil .nil (fun _ _ => rfl) (fun _ _ => rfl) rfl) (.inr fun _ _ _ h => h) fun _ _ => ?_
        refine .dpu rfl (.n rfl) (P.bin .t0 .k .lss) rfl rfl ?_
        refine .dpu rfl (.n rfl) (P.not .t0) rfl rfl ?_
        refine .dnil ?_
        refine .then ?_
        refine .cond .t0 (fun c96 => ?_) (fun c96 => ?_)
        · rw [if_pos c96] at hc76
          refine .reg rfl ?_
          refine .opp (P.mov .t0) rfl ?_
          refine .opp (P.bin .t0 .k .add) rfl ?_
          refine .drop .k2 ?_
          refine .opp (P.asg .t0) rfl ?_
          refine .nil ?_
          refine .inn ?_
          cases hc76
          obtain ⟨m97, hm98, hn77⟩ := hn77
          exact .rdW ((s72.1, IntKind.i64.wrap ((IntKind.i64.wrap ((rshU (Ui (IntKind.i64.wrap (s72.2 + s72.1))) 1).toNat : Int)) + 1))) () hm98 hn77 (.cons Mm.m1 (.cons Mm.m0 (.cons Mm.m2 (.cons Mm.m3 (.cons Mm.m4 .nil))))) (.of (.cons .k0 .nil)) .nil
        · rw [if_neg (ne_true_of_eq_false c96)] at hc76
          refine .reg rfl ?_
          refine .opp (P.mov .t0) rfl ?_
          refine .drop .k1 ?_
          refine .opp (P.asg .t0) rfl ?_
          refine .nil ?_
          refine .inn ?_
          cases hc76
          obtain ⟨m99, hm100, hn77⟩ := hn77
          exact .rdW ((IntKind.i64.wrap ((rshU (Ui (IntKind.i64.wrap (s72.2 + s72.1))) 1).toNat : Int), s72.2)) () hm100 hn77 (.cons Mm.m0 (.cons Mm.m1 (.cons Mm.m2 (.cons Mm.m3 (.cons Mm.m4 .nil))))) (.of (.cons .k0 .nil)) .nil
      · rw [if_neg (ne_true_of_eq_false c81)] at hc76
        refine .exit ?_
        refine .thx ?_
        cases hc76
        refine .told (γ := Unit) h hn77 (fun (s72 : Int × Int) _ => [(15, N s72.1), (14, N s72.2), (0, v00), (2, N a2), (4, fnv 78 [])]) (fun (s72 : Int × Int) _ => [lst 72 29 v00 (a0.map clock_Stamp.cs)]) (fun (s72 : Int × Int) _ => []) () (.cons Mm.m0 (.cons Mm.m1 (.cons Mm.m2 (.cons Mm.m3 (.cons Mm.m4 .nil))))) (.of (.cons .k0 .nil)) .nil (fun s72 _ h' => ?_)
        replace h := h'
        refine .thx ?_
        refine .inb ?_
        refine .then ?_
        refine .seq ?_
        refine .seq ?_
        refine .reg rfl ?_
        refine .opp (P.mov .t3) rfl ?_
        refine .opp (P.asg .t0) rfl ?_
        refine .nil ?_
        refine .then ?_
        refine .block ?_
        obtain ⟨o103, ho104, h⟩ := bnd_eq h
        refine .loopW (γ := Unit) (fun (s101 : Int × (List clock_Stamp)) z102 => [(17, N s101.1), (14, N s72.2), (0, v00)]) (fun (s101 : Int × (List clock_Stamp)) z102 => [lst 72 29 v00 (s101.2.map clock_Stamp.cs)]) (fun (s101 : Int × (List clock_Stamp)) z102 => []) () ho104 (.cons Mm.m0 (.cons Mm.m2 (.cons Mm.m3 .nil))) (.of (.cons .k0 .nil)) .nil (fun n109 s101 z102 hr107 => ?_)
        obtain ⟨ct108, hc105, hn106⟩ := loopK_at hr107
        refine .seq ?_
        refine .seq ?_
        refine .reg rfl ?_
        refine .opp (P.mov .g0) rfl ?_
        refine .opp (P.mov .g2) rfl ?_
        refine .opp (P.bin .t1 .t0 .gtr) rfl ?_
        refine .nil ?_
        refine .then ?_
        refine .cond .t0 (fun c110 => ?_) (fun c110 => ?_)
        · rw [if_pos c110] at hc105
          refine .skip ?_
          refine .then ?_
          refine .seq ?_
          refine .block ?_
          refine .draw 15 (.on 0 .pu (.on 1 .pu (.on 2 .pu (.on 3 .pu (.on 4 .pu (.on 5 .pu (.on 6 .pu (.on 7 .pu (.on 8 .pu (.on 10 .pu (.on 11 .pu (.on 12 .pu (.on 9 .ld (.on 13 .ld (.on 14 .pu (.on 15 .go (.on 16 .pu (.on 17 .go .nl)))))))))))))))))) follows_mixed (.inb (.thn (.thn (.inb (.thn (.thn .body)))))) (by kernel_rfl) ?_
          refine .dpu rfl (.n rfl) (P.mov .g2) rfl rfl ?_
          refine .dpu rfl (.n rfl) (P.mov .g1) rfl rfl ?_
          refine .dpu rfl (.n rfl) (P.mov .g4) rfl rfl ?_
          refine .dpu rfl (.n rfl) (P.mov .g3) rfl rfl ?_
          refine .dpu rfl (.n rfl) (P.bin .t0 .k .sub) rfl rfl ?_
          refine .dpu rfl (.n rfl) (P.mov .g6) rfl rfl ?_
          refine .dpu rfl (.n rfl) (P.mov .g5) rfl rfl ?_
          refine .dpu rfl (.n rfl) (P.bin .t0 .k .sub) rfl rfl ?_
          obtain ⟨x114, hx115, hc105⟩ := bnd_eq hc105
          obtain ⟨i116, hi117, hx115⟩ := at_eq hx115
          have hi117_ : (IntKind.i64.wrap (s101.1 - 1)).toNat = i116 := by rw [hi117]; rfl
          refine .ixql .k0 (map_get hx115) fun p111 q112 hq113 => ?_
          refine .dpu rfl (.n rfl) (P.ixi (i := i116) .t0 hi117 .t0 hq113 runUnderlying68 sizeOf72) rfl rfl ?_
          refine .dpu rfl (.n rfl) (P.mov .g7) rfl rfl ?_
          refine .dpu rfl (.n rfl) (P.mov .g6) rfl rfl ?_
          obtain ⟨x121, hx122, hc105⟩ := bnd_eq hc105
          obtain ⟨i123, hi124, hx122⟩ := at_eq hx122
          have hi124_ : (s101.1).toNat = i123 := by rw [hi124]; rfl
          refine .ixql .k0 (map_get hx122) fun p118 q119 hq120 => ?_
          refine .dpu rfl (.n rfl) (P.ixi (i := i123) .t0 hi124 .t0 hq120 runUnderlying68 sizeOf72) rfl rfl ?_
          refine .dld rfl (.n rfl) (V.ldxl0 (u := Ag (clock_Stamp.cs x114)) .t1 hq113 .k0 (map_get hx115) (.agg isAgg72 sizeOf72 rfl rfl)) (fun _ h => h) rfl rfl ?_
          refine .dld rfl (.n rfl) (V.ldxl0 (u := Ag (clock_Stamp.cs x121)) .t1 hq120 .k0 (map_get hx122) (.agg isAgg72 sizeOf72 rfl rfl)) (fun _ h => h) rfl rfl ?_
          obtain ⟨x128, hx129, hc105⟩ := bnd_eq hc105
          obtain ⟨i130, hi131, hx129⟩ := at_eq hx129
          have hi131_ : (s101.1).toNat = i130 := by rw [hi131]; rfl
          refine .ixql .k0 (map_get hx129) fun p125 q126 hq127 => ?_
          refine .dpu rfl (.n rfl) (P.ixi (i := i130) .t4 hi131 .t4 hq127 runUnderlying68 sizeOf72) rfl rfl ?_
          refine .dgo rfl (.n rfl) (G.stx (off := q126) (k := 0) (cs' := (clock_Stamp.cs x114)) .t2 .t0 hq127 .k0 (map_get hx129) (.mk sizeOf72 rfl rfl rfl rfl)) (.inl rfl) fun _ _ => ?_
          refine .conseq .k0 (q := lst 72 29 v00 (((s101.2.set ((s101.1).toNat) (x114 : clock_Stamp))).map clock_Stamp.cs)) (fun _ h_ => by rw [hi131_]; simpa [List.map_set] using h_) ?_
          obtain ⟨x135, hx136, hc105⟩ := bnd_eq hc105
          obtain ⟨i137, hi138, hx136⟩ := at_eq hx136
          have hi138_ : (IntKind.i64.wrap (s101.1 - 1)).toNat = i137 := by rw [hi138]; rfl
          refine .ixql .k0 (map_get hx136) fun p132 q133 hq134 => ?_
          refine .dpu rfl (.n rfl) (P.ixi (i := i137) .t1 hi138 .t1 hq134 runUnderlying68 sizeOf72) rfl rfl ?_
          refine .dgo rfl (.n rfl) (G.stx (off := q133) (k := 0) (cs' := (clock_Stamp.cs x121)) .t1 .t0 hq134 .k0 (map_get hx136) (.mk sizeOf72 rfl rfl rfl rfl)) (.inl rfl) fun _ _ => ?_
          refine .conseq .k0 (q := lst 72 29 v00 (((((s101.2.set ((s101.1).toNat) (x114 : clock_Stamp))).set ((IntKind.i64.wrap (s101.1 - 1)).toNat) (x121 : clock_Stamp))).map clock_Stamp.cs)) (fun _ h_ => by rw [hi138_]; simpa [List.map_set] using h_) ?_
          refine .dnil ?_
          refine .inn ?_
          refine .then ?_
          refine .reg rfl ?_
          refine .opp (P.mov .g0) rfl ?_
          refine .opp (P.bin .t0 .k .sub) rfl ?_
          refine .drop .k1 ?_
          refine .opp (P.asg .t0) rfl ?_
          refine .nil ?_
          cases hc105
          obtain ⟨m139, hm140, hn106⟩ := hn106
          exact .rdW ((IntKind.i64.wrap (s101.1 - 1), (((s101.2.set ((s101.1).toNat) (x114 : clock_Stamp))).set ((IntKind.i64.wrap (s101.1 - 1)).toNat) (x121 : clock_Stamp)))) () hm140 hn106 (.cons Mm.m0 (.cons Mm.m1 (.cons Mm.m2 .nil))) (.of (.cons .k0 .nil)) .nil
        · rw [if_neg (ne_true_of_eq_false c110)] at hc105
          refine .exit ?_
          refine .thx ?_
          cases hc105
          refine .told (γ := Unit) h hn106 (fun (s101 : Int × (List clock_Stamp)) _ => [(17, N s101.1), (14, N s72.2), (0, v00)]) (fun (s101 : Int × (List clock_Stamp)) _ => [lst 72 29 v00 (s101.2.map clock_Stamp.cs)]) (fun (s101 : Int × (List clock_Stamp)) _ => []) () (.cons Mm.m0 (.cons Mm.m1 (.cons Mm.m2 .nil))) (.of (.cons .k0 .nil)) .nil (fun s101 _ h' => ?_)
          replace h := h'
          refine .thx ?_
          refine .inb ?_
          refine .then ?_
          refine .ret ?_
          refine .thr ?_
          cases h
          exact .finw () (.r0 rfl) trivial (Ls.of (.cons .k0 .nil)) .nil
    · rw [if_neg (ne_true_of_eq_false c71)] at h
      refine .skip ?_
      refine .then ?_
      refine .seq ?_
      refine .reg rfl ?_
      refine .opp (P.mov .g1) rfl ?_
      refine .opp (P.mov .g4) rfl ?_
      refine .opp (P.bin .t1 .t0 .add) rfl ?_
      refine .opp (P.cnvU (m := IntKind.i64.wrap (a1 + a3)) .t0 runUnderlying3 runUnderlying246) rfl ?_
      refine .opp (P.bin .t0 .k (BinV.shrU (x := Ui (IntKind.i64.wrap (a1 + a3))) (n := 1) (by decide))) rfl ?_
      refine .opp (P.cnv (m := ((rshU (Ui (IntKind.i64.wrap (a1 + a3))) 1).toNat : Int)) .t0 runUnderlying246 runUnderlying3) rfl ?_
      refine .opp (P.asg .t0) rfl ?_
      refine .nil ?_
      refine .then ?_
      refine .seq ?_
      refine .reg rfl ?_
      refine .opp (P.mov .g0) rfl ?_
      refine .opp (P.mov .g4) rfl ?_
      refine .opp (P.bin .t1 .t0 .add) rfl ?_
      refine .opp (P.asg .t0) rfl ?_
      refine .nil ?_
      refine .then ?_
      refine .seq ?_
      refine .reg rfl ?_
      refine .op0 (OpP.toV (P.asg .k)) rfl ?_
      refine .op0 (OpP.toV (P.asg .k)) rfl ?_
      refine .nil ?_
      refine .then ?_
      obtain ⟨y141, hj143, h⟩ := thn_eq h
      refine .cutx (γ := Unit) (E1 := fun z142 => [(21, N y141.1), (20, N y141.2), (19, N (IntKind.i64.wrap ((IntKind.i64.wrap ((rshU (Ui (IntKind.i64.wrap (a1 + a3))) 1).toNat : Int)) + a2))), (18, N (IntKind.i64.wrap ((rshU (Ui (IntKind.i64.wrap (a1 + a3))) 1).toNat : Int))), (0, v00), (1, N a1), (2, N a2), (3, N a3), (4, fnv 78 [])]) (L1 := fun z142 => [lst 72 29 v00 (a0.map clock_Stamp.cs)]) (R1 := fun z142 => []) ?_ (fun z142 => ?_)
      · clear h
        refine .seq ?_
        refine .reg rfl ?_
        refine .opp (P.mov .g4) rfl ?_
        refine .opp (P.mov .g2) rfl ?_
        refine .opp (P.bin .t1 .t0 .gtr) rfl ?_
        refine .nil ?_
        refine .then ?_
        refine .cond .t0 (fun c144 => ?_) (fun c144 => ?_)
        · rw [if_pos c144] at hj143
          refine .seq ?_
          refine .reg rfl ?_
          refine .opp (P.mov .g0) rfl ?_
          refine .opp (P.mov .g6) rfl ?_
          refine .opp (P.bin .t1 .t0 .sub) rfl ?_
          refine .opp (P.asg .t0) rfl ?_
          refine .nil ?_
          refine .then ?_
          refine .reg rfl ?_
          refine .opp (P.mov .g2) rfl ?_
          refine .opp (P.asg .t0) rfl ?_
          refine .nil ?_
          subst hj143
          exact .stj () (.cons Mm.m0 (.cons Mm.m1 (.cons Mm.m2 (.cons Mm.m3 (.cons Mm.m4 (.cons Mm.m5 (.cons Mm.m6 (.cons Mm.m7 (.cons Mm.m8 .nil))))))))) (.of (.cons .k0 .nil)) .nil
        · rw [if_neg (ne_true_of_eq_false c144)] at hj143
          refine .seq ?_
          refine .reg rfl ?_
          refine .opp (P.mov .g3) rfl ?_
          refine .opp (P.asg .t0) rfl ?_
          refine .nil ?_
          refine .then ?_
          refine .reg rfl ?_
          refine .opp (P.mov .g5) rfl ?_
          refine .opp (P.asg .t0) rfl ?_
          refine .nil ?_
          subst hj143
          exact .stj () (.cons Mm.m0 (.cons Mm.m1 (.cons Mm.m2 (.cons Mm.m3 (.cons Mm.m4 (.cons Mm.m5 (.cons Mm.m6 (.cons Mm.m7 (.cons Mm.m8 .nil))))))))) (.of (.cons .k0 .nil)) .nil
      · clear hj143
        refine .seq ?_
        refine .reg rfl ?_
        refine .opp (P.mov .g2) rfl ?_
        refine .opp (P.bin .t0 .k .sub) rfl ?_
        refine .opp (P.asg .t0) rfl ?_
        refine .nil ?_
        refine .then ?_
        refine .seq ?_
        refine .block ?_
        obtain ⟨o147, ho148, h⟩ := bnd_eq h
        refine .loopW (γ := Unit) (fun (s145 : Int × Int) z146 => [(22, N (IntKind.i64.wrap ((IntKind.i64.wrap ((IntKind.i64.wrap ((rshU (Ui (IntKind.i64.wrap (a1 + a3))) 1).toNat : Int)) + a2)) - 1))), (21, N s145.1), (20, N s145.2), (19, N (IntKind.i64.wrap ((IntKind.i64.wrap ((rshU (Ui (IntKind.i64.wrap (a1 + a3))) 1).toNat : Int)) + a2))), (18, N (IntKind.i64.wrap ((rshU (Ui (IntKind.i64.wrap (a1 + a3))) 1).toNat : Int))), (0, v00), (1, N a1), (2, N a2), (3, N a3), (4, fnv 78 [])]) (fun (s145 : Int × Int) z146 => [lst 72 29 v00 (a0.map clock_Stamp.cs)]) (fun (s145 : Int × Int) z146 => []) () ho148 (.cons Mm.m0 (.cons Mm.m1 (.cons Mm.m2 (.cons Mm.m3 (.cons Mm.m4 (.cons Mm.m5 (.cons Mm.m6 (.cons Mm.m7 (.cons Mm.m8 (.cons Mm.m9 .nil)))))))))) (.of (.cons .k0 .nil)) .nil (fun n153 s145 z146 hr151 => ?_)
        obtain ⟨ct152, hc149, hn150⟩ := loopK_at hr151
        refine .seq ?_
        refine .seq ?_
        refine .reg rfl ?_
        refine .opp (P.mov .g2) rfl ?_
        refine .opp (P.mov .g2) rfl ?_
        refine .opp (P.bin .t1 .t0 .lss) rfl ?_
        refine .nil ?_
        refine .then ?_
        refine .cond .t0 (fun c154 => ?_) (fun c154 => ?_)
        · rw [if_pos c154] at hc149
          refine .skip ?_
          refine .then ?_
          refine .block ?_
          refine .seq ?_
          refine .reg rfl ?_
          refine .opp (P.mov .g2) rfl ?_
          refine .opp (P.mov .g2) rfl ?_
          refine .opp (P.bin .t1 .t0 .add) rfl ?_
          refine .opp (P.cnvU (m := IntKind.i64.wrap (s145.2 + s145.1)) .t0 runUnderlying3 runUnderlying246) rfl ?_
          refine .opp (P.bin .t0 .k (BinV.shrU (x := Ui (IntKind.i64.wrap (s145.2 + s145.1))) (n := 1) (by decide))) rfl ?_
          refine .opp (P.cnv (m := ((rshU (Ui (IntKind.i64.wrap (s145.2 + s145.1))) 1).toNat : Int)) .t0 runUnderlying246 runUnderlying3) rfl ?_
          refine .opp (P.asg .t0) rfl ?_
          refine .nil ?_
          refine .then ?_
          refine .seq ?_
          refine .draw 14 (.on 0 .pu (.on 1 .pu (.on 2 .pu (.on 3 .pu (.on 4 .pu (.on 5 .pu (.on 7 .pu (.on 8 .pu (.on 9 .pu (.on 6 .ld (.on 10 .ld (.on 11 .go (.on 12 .pu (.on 13 .pu .nl)))))))))))))) follows_mixed (.thn (.inb (.thn (.inb (.thn .body))))) (by kernel_rfl) ?_
          refine .dpu rfl (.n rfl) (P.mov .g10) rfl rfl ?_
          refine .dpu rfl (.n rfl) (P.mov .g7) rfl rfl ?_
          refine .dpu rfl (.n rfl) (P.mov .g3) rfl rfl ?_
          refine .dpu rfl (.n rfl) (P.mov .g3) rfl rfl ?_
          refine .dpu rfl (.n rfl) (P.bin .t1 .t0 .sub) rfl rfl ?_
          obtain ⟨x158, hx159, hc149⟩ := bnd_eq hc149
          obtain ⟨i160, hi161, hx159⟩ := at_eq hx159
          have hi161_ : (IntKind.i64.wrap ((IntKind.i64.wrap ((IntKind.i64.wrap ((IntKind.i64.wrap ((rshU (Ui (IntKind.i64.wrap (a1 + a3))) 1).toNat : Int)) + a2)) - 1)) - (IntKind.i64.wrap ((rshU (Ui (IntKind.i64.wrap (s145.2 + s145.1))) 1).toNat : Int)))).toNat = i160 := by rw [hi161]; rfl
          refine .ixql .k0 (map_get hx159) fun p155 q156 hq157 => ?_
          refine .dpu rfl (.n rfl) (P.ixi (i := i160) .t0 hi161 .t0 hq157 runUnderlying68 sizeOf72) rfl rfl ?_
          refine .dpu rfl (.n rfl) (P.mov .g8) rfl rfl ?_
          refine .dpu rfl (.n rfl) (P.mov .g3) rfl rfl ?_
          obtain ⟨x165, hx166, hc149⟩ := bnd_eq hc149
          obtain ⟨i167, hi168, hx166⟩ := at_eq hx166
          have hi168_ : (IntKind.i64.wrap ((rshU (Ui (IntKind.i64.wrap (s145.2 + s145.1))) 1).toNat : Int)).toNat = i167 := by rw [hi168]; rfl
          refine .ixql .k0 (map_get hx166) fun p162 q163 hq164 => ?_
          refine .dpu rfl (.n rfl) (P.ixi (i := i167) .t0 hi168 .t0 hq164 runUnderlying68 sizeOf72) rfl rfl ?_
          refine .dld rfl (.n rfl) (V.ldxl0 (u := Ag (clock_Stamp.cs x158)) .t1 hq157 .k0 (map_get hx159) (.agg isAgg72 sizeOf72 rfl rfl)) (fun _ h => h) rfl rfl ?_
          refine .dld rfl (.n rfl) (V.ldxl0 (u := Ag (clock_Stamp.cs x165)) .t1 hq164 .k0 (map_get hx166) (.agg isAgg72 sizeOf72 rfl rfl)) (fun _ h => h) rfl rfl ?_
          refine .dgo rfl (.n rfl) (G.callv call78 .t2 (.cons .t1 (.cons .t0 .nil)) (S_clock_Merge_1 x158 x165 _ rfl) .nil .nil (fun _ _ => rfl) (fun _ _ => rfl) rfl) (.inr fun _ _ _ h => h) fun _ _ => ?_
          refine .dpu rfl (.n rfl) (P.bin .t0 .k .lss) rfl rfl ?_
          refine .dpu rfl (.n rfl) (P.not .t0) rfl rfl ?_
          refine .dnil ?_
          refine .then ?_
          refine .cond .t0 (fun c169 => ?_) (fun c169 => ?_)
          · rw [if_pos c169] at hc149
            refine .reg rfl ?_
            refine .opp (P.mov .t0) rfl ?_
            refine .opp (P.bin .t0 .k .add) rfl ?_
            refine .drop .k3 ?_
            refine .opp (P.asg .t0) rfl ?_
            refine .nil ?_
            refine .inn ?_
            cases hc149
            obtain ⟨m170, hm171, hn150⟩ := hn150
            exact .rdW ((s145.1, IntKind.i64.wrap ((IntKind.i64.wrap ((rshU (Ui (IntKind.i64.wrap (s145.2 + s145.1))) 1).toNat : Int)) + 1))) () hm171 hn150 (.cons Mm.m1 (.cons Mm.m2 (.cons Mm.m0 (.cons Mm.m3 (.cons Mm.m4 (.cons Mm.m5 (.cons Mm.m6 (.cons Mm.m7 (.cons Mm.m8 (.cons Mm.m9 .nil)))))))))) (.of (.cons .k0 .nil)) .nil
          · rw [if_neg (ne_true_of_eq_false c169)] at hc149
            refine .reg rfl ?_
            refine .opp (P.mov .t0) rfl ?_
            refine .drop .k2 ?_
            refine .opp (P.asg .t0) rfl ?_
            refine .nil ?_
            refine .inn ?_
            cases hc149
            obtain ⟨m172, hm173, hn150⟩ := hn150
            exact .rdW ((IntKind.i64.wrap ((rshU (Ui (IntKind.i64.wrap (s145.2 + s145.1))) 1).toNat : Int), s145.2)) () hm173 hn150 (.cons Mm.m1 (.cons Mm.m0 (.cons Mm.m2 (.cons Mm.m3 (.cons Mm.m4 (.cons Mm.m5 (.cons Mm.m6 (.cons Mm.m7 (.cons Mm.m8 (.cons Mm.m9 .nil)))))))))) (.of (.cons .k0 .nil)) .nil
        · rw [if_neg (ne_true_of_eq_false c154)] at hc149
          refine .exit ?_
          refine .thx ?_
          cases hc149
          refine .told (γ := Unit) h hn150 (fun (s145 : Int × Int) _ => [(22, N (IntKind.i64.wrap ((IntKind.i64.wrap ((IntKind.i64.wrap ((rshU (Ui (IntKind.i64.wrap (a1 + a3))) 1).toNat : Int)) + a2)) - 1))), (21, N s145.1), (20, N s145.2), (19, N (IntKind.i64.wrap ((IntKind.i64.wrap ((rshU (Ui (IntKind.i64.wrap (a1 + a3))) 1).toNat : Int)) + a2))), (18, N (IntKind.i64.wrap ((rshU (Ui (IntKind.i64.wrap (a1 + a3))) 1).toNat : Int))), (0, v00), (1, N a1), (2, N a2), (3, N a3), (4, fnv 78 [])]) (fun (s145 : Int × Int) _ => [lst 72 29 v00 (a0.map clock_Stamp.cs)]) (fun (s145 : Int × Int) _ => []) () (.cons Mm.m0 (.cons Mm.m1 (.cons Mm.m2 (.cons Mm.m3 (.cons Mm.m4 (.cons Mm.m5 (.cons Mm.m6 (.cons Mm.m7 (.cons Mm.m8 (.cons Mm.m9 .nil)))))))))) (.of (.cons .k0 .nil)) .nil (fun s145 _ h' => ?_)
          replace h := h'
          refine .thx ?_
          refine .inb ?_
          refine .then ?_
          refine .seq ?_
          refine .reg rfl ?_
          refine .opp (P.mov .t3) rfl ?_
          refine .opp (P.mov .g3) rfl ?_
          refine .opp (P.bin .t1 .t0 .sub) rfl ?_
          refine .opp (P.asg .t0) rfl ?_
          refine .nil ?_
          refine .then ?_
          obtain ⟨y174, hj176, h⟩ := bnd_eq h
          refine .cutx (γ := Unit) (E1 := fun z175 => [(24, N (IntKind.i64.wrap ((IntKind.i64.wrap ((IntKind.i64.wrap ((rshU (Ui (IntKind.i64.wrap (a1 + a3))) 1).toNat : Int)) + a2)) - s145.2))), (20, N s145.2), (18, N (IntKind.i64.wrap ((rshU (Ui (IntKind.i64.wrap (a1 + a3))) 1).toNat : Int))), (0, v00), (1, N a1), (3, N a3), (4, fnv 78 [])]) (L1 := fun z175 => [lst 72 29 v00 (y174.map clock_Stamp.cs)]) (R1 := fun z175 => []) ?_ (fun z175 => ?_)
          · clear h
            obtain ⟨y177, hj179, hj176⟩ := thn_eq hj176
            refine .cutx (γ := Unit) (E1 := fun z178 => [(185, Bo y177), (24, N (IntKind.i64.wrap ((IntKind.i64.wrap ((IntKind.i64.wrap ((rshU (Ui (IntKind.i64.wrap (a1 + a3))) 1).toNat : Int)) + a2)) - s145.2))), (20, N s145.2), (18, N (IntKind.i64.wrap ((rshU (Ui (IntKind.i64.wrap (a1 + a3))) 1).toNat : Int))), (0, v00), (1, N a1), (2, N a2), (3, N a3), (4, fnv 78 [])]) (L1 := fun z178 => [lst 72 29 v00 (a0.map clock_Stamp.cs)]) (R1 := fun z178 => []) ?_ (fun z178 => ?_)
            · clear hj176
              refine .reg rfl ?_
              refine .opp (P.mov .g3) rfl ?_
              refine .opp (P.mov .g8) rfl ?_
              refine .opp (P.bin .t1 .t0 .lss) rfl ?_
              refine .opp (P.mov .t0) rfl ?_
              refine .split .k0 (fun c180 => ?_) (fun c180 => ?_)
              · rw [if_pos c180] at hj179
                refine .gyes rfl .g0 ?_
                refine .opp (P.mov .g8) rfl ?_
                refine .gyes rfl .g1 ?_
                refine .opp (P.mov .g2) rfl ?_
                refine .gyes rfl .g2 ?_
                refine .opp (P.bin .t1 .t0 .lss) rfl ?_
                refine .opp (P.pickT .t1 .t0) rfl ?_
                refine .nil ?_
                subst hj179
                exact .stj () (.cons Mm.m0 (.cons Mm.m1 (.cons Mm.m4 (.cons Mm.m5 (.cons Mm.m6 (.cons Mm.m7 (.cons Mm.m8 (.cons Mm.m9 (.cons Mm.m10 .nil))))))))) (.of (.cons .k0 .nil)) .nil
              · rw [if_neg (ne_true_of_eq_false c180)] at hj179
                refine .gno rfl .g0 rfl rfl ?_
                refine .gno rfl .g0 rfl rfl ?_
                refine .gno rfl .g0 rfl rfl ?_
                refine .opp (P.pickF .t0 .k) rfl ?_
                refine .nil ?_
                subst hj179
                exact .stj () (.cons Mm.m0 (.cons Mm.m1 (.cons Mm.m4 (.cons Mm.m5 (.cons Mm.m6 (.cons Mm.m7 (.cons Mm.m8 (.cons Mm.m9 (.cons Mm.m10 .nil))))))))) (.of (.cons .k0 .nil)) .nil
            · clear hj179
              refine .cond .t0 (fun c181 => ?_) (fun c181 => ?_)
              · rw [if_pos c181] at hj176
                refine .reg rfl ?_
                refine .opp (P.mov .g3) rfl ?_
                refine .opp (P.mov .g2) rfl ?_
                refine .opp (P.mov .t7) rfl ?_
                refine .opp (P.mov .g3) rfl ?_
                refine .opp (P.mov .g10) rfl ?_
                obtain ⟨r182, hr183, hj176⟩ := bnd_eq hj176
                refine .opg (G.call call196 (.cons .t4 (.cons .t3 (.cons .t2 (.cons .t1 (.cons .t0 .nil))))) (S_slices_rotateCmpFunc_i196_m_f78 v00 a0 s145.2 a2 (IntKind.i64.wrap ((IntKind.i64.wrap ((IntKind.i64.wrap ((rshU (Ui (IntKind.i64.wrap (a1 + a3))) 1).toNat : Int)) + a2)) - s145.2)) r182 hr183) (.cons .k0 .nil) .nil (fun _ _ => rfl) (fun _ _ => rfl) rfl) rfl fun _ _ => ?_
                refine .drop .k0 ?_
                refine .nil ?_
                cases hj176
                exact .stj () (.cons Mm.m0 (.cons Mm.m1 (.cons Mm.m2 (.cons Mm.m3 (.cons Mm.m4 (.cons Mm.m5 (.cons Mm.m6 .nil))))))) (.of (.cons .k0 .nil)) .nil
              · rw [if_neg (ne_true_of_eq_false c181)] at hj176
                refine .skip ?_
                cases hj176
                exact .stj () (.cons Mm.m0 (.cons Mm.m1 (.cons Mm.m2 (.cons Mm.m3 (.cons Mm.m4 (.cons Mm.m6 (.cons Mm.m7 .nil))))))) (.of (.cons .k0 .nil)) .nil
          · clear hj176
            obtain ⟨y184, hj186, h⟩ := bnd_eq h
            refine .cutx (γ := Unit) (E1 := fun z185 => [(24, N (IntKind.i64.wrap ((IntKind.i64.wrap ((IntKind.i64.wrap ((rshU (Ui (IntKind.i64.wrap (a1 + a3))) 1).toNat : Int)) + a2)) - s145.2))), (18, N (IntKind.i64.wrap ((rshU (Ui (IntKind.i64.wrap (a1 + a3))) 1).toNat : Int))), (0, v00), (3, N a3), (4, fnv 78 [])]) (L1 := fun z185 => [lst 72 29 v00 (y184.map clock_Stamp.cs)]) (R1 := fun z185 => []) ?_ (fun z185 => ?_)
            · clear h
              obtain ⟨y187, hj189, hj186⟩ := thn_eq hj186
              refine .cutx (γ := Unit) (E1 := fun z188 => [(199, Bo y187), (24, N (IntKind.i64.wrap ((IntKind.i64.wrap ((IntKind.i64.wrap ((rshU (Ui (IntKind.i64.wrap (a1 + a3))) 1).toNat : Int)) + a2)) - s145.2))), (20, N s145.2), (18, N (IntKind.i64.wrap ((rshU (Ui (IntKind.i64.wrap (a1 + a3))) 1).toNat : Int))), (0, v00), (1, N a1), (3, N a3), (4, fnv 78 [])]) (L1 := fun z188 => [lst 72 29 v00 (y174.map clock_Stamp.cs)]) (R1 := fun z188 => []) ?_ (fun z188 => ?_)
              · clear hj186
                refine .reg rfl ?_
                refine .opp (P.mov .g4) rfl ?_
                refine .opp (P.mov .g2) rfl ?_
                refine .opp (P.bin .t1 .t0 .lss) rfl ?_
                refine .opp (P.mov .t0) rfl ?_
                refine .split .k0 (fun c190 => ?_) (fun c190 => ?_)
                · rw [if_pos c190] at hj189
                  refine .gyes rfl .g0 ?_
                  refine .opp (P.mov .g2) rfl ?_
                  refine .gyes rfl .g1 ?_
                  refine .opp (P.mov .g4) rfl ?_
                  refine .gyes rfl .g2 ?_
                  refine .opp (P.bin .t1 .t0 .lss) rfl ?_
                  refine .opp (P.pickT .t1 .t0) rfl ?_
                  refine .nil ?_
                  subst hj189
                  exact .stj () (.cons Mm.m0 (.cons Mm.m1 (.cons Mm.m2 (.cons Mm.m3 (.cons Mm.m4 (.cons Mm.m5 (.cons Mm.m6 (.cons Mm.m7 .nil)))))))) (.of (.cons .k0 .nil)) .nil
                · rw [if_neg (ne_true_of_eq_false c190)] at hj189
                  refine .gno rfl .g0 rfl rfl ?_
                  refine .gno rfl .g0 rfl rfl ?_
                  refine .gno rfl .g0 rfl rfl ?_
                  refine .opp (P.pickF .t0 .k) rfl ?_
                  refine .nil ?_
                  subst hj189
                  exact .stj () (.cons Mm.m0 (.cons Mm.m1 (.cons Mm.m2 (.cons Mm.m3 (.cons Mm.m4 (.cons Mm.m5 (.cons Mm.m6 (.cons Mm.m7 .nil)))))))) (.of (.cons .k0 .nil)) .nil
              · clear hj189
                refine .cond .t0 (fun c191 => ?_) (fun c191 => ?_)
                · rw [if_pos c191] at hj186
                  refine .reg rfl ?_
                  refine .opp (P.mov .g3) rfl ?_
                  refine .opp (P.mov .t5) rfl ?_
                  refine .opp (P.mov .t3) rfl ?_
                  refine .opp (P.mov .g4) rfl ?_
                  refine .opp (P.mov .g8) rfl ?_
                  obtain ⟨r192, hr193, hj186⟩ := bnd_eq hj186
                  refine .opg (G.call call168 (.cons .t4 (.cons .t3 (.cons .t2 (.cons .t1 (.cons .t0 .nil))))) (ih v00 y174 a1 s145.2 (IntKind.i64.wrap ((rshU (Ui (IntKind.i64.wrap (a1 + a3))) 1).toNat : Int)) r192 hr193) (.cons .k0 .nil) .nil (fun _ _ => rfl) (fun _ _ => rfl) rfl) rfl fun _ _ => ?_
                  refine .drop .k0 ?_
                  refine .nil ?_
                  cases hj186
                  exact .stj () (.cons Mm.m0 (.cons Mm.m1 (.cons Mm.m2 (.cons Mm.m3 (.cons Mm.m4 .nil))))) (.of (.cons .k0 .nil)) .nil
                · rw [if_neg (ne_true_of_eq_false c191)] at hj186
                  refine .skip ?_
                  cases hj186
                  exact .stj () (.cons Mm.m0 (.cons Mm.m2 (.cons Mm.m3 (.cons Mm.m5 (.cons Mm.m6 .nil))))) (.of (.cons .k0 .nil)) .nil
            · clear hj186
              obtain ⟨y194, hj196, h⟩ := thn_eq h
              refine .cutx (γ := Unit) (E1 := fun z195 => [(213, Bo y194), (24, N (IntKind.i64.wrap ((IntKind.i64.wrap ((IntKind.i64.wrap ((rshU (Ui (IntKind.i64.wrap (a1 + a3))) 1).toNat : Int)) + a2)) - s145.2))), (18, N (IntKind.i64.wrap ((rshU (Ui (IntKind.i64.wrap (a1 + a3))) 1).toNat : Int))), (0, v00), (3, N a3), (4, fnv 78 [])]) (L1 := fun z195 => [lst 72 29 v00 (y184.map clock_Stamp.cs)]) (R1 := fun z195 => []) ?_ (fun z195 => ?_)
              · clear h
                refine .reg rfl ?_
                refine .opp (P.mov .g1) rfl ?_
                refine .opp (P.mov .g1) rfl ?_
                refine .opp (P.bin .t1 .t0 .lss) rfl ?_
                refine .opp (P.mov .t0) rfl ?_
                refine .split .k0 (fun c197 => ?_) (fun c197 => ?_)
                · rw [if_pos c197] at hj196
                  refine .gyes rfl .g0 ?_
                  refine .opp (P.mov .g1) rfl ?_
                  refine .gyes rfl .g1 ?_
                  refine .opp (P.mov .g5) rfl ?_
                  refine .gyes rfl .g2 ?_
                  refine .opp (P.bin .t1 .t0 .lss) rfl ?_
                  refine .opp (P.pickT .t1 .t0) rfl ?_
                  refine .nil ?_
                  subst hj196
                  exact .stj () (.cons Mm.m0 (.cons Mm.m1 (.cons Mm.m2 (.cons Mm.m3 (.cons Mm.m4 (.cons Mm.m5 .nil)))))) (.of (.cons .k0 .nil)) .nil
                · rw [if_neg (ne_true_of_eq_false c197)] at hj196
                  refine .gno rfl .g0 rfl rfl ?_
                  refine .gno rfl .g0 rfl rfl ?_
                  refine .gno rfl .g0 rfl rfl ?_
                  refine .opp (P.pickF .t0 .k) rfl ?_
                  refine .nil ?_
                  subst hj196
                  exact .stj () (.cons Mm.m0 (.cons Mm.m1 (.cons Mm.m2 (.cons Mm.m3 (.cons Mm.m4 (.cons Mm.m5 .nil)))))) (.of (.cons .k0 .nil)) .nil
              · clear hj196
                refine .cond .t0 (fun c198 => ?_) (fun c198 => ?_)
                · rw [if_pos c198] at h
                  refine .reg rfl ?_
                  refine .opp (P.mov .t2) rfl ?_
                  refine .opp (P.mov .t2) rfl ?_
                  refine .opp (P.mov .t2) rfl ?_
                  refine .opp (P.mov .t3) rfl ?_
                  refine .opp (P.mov .t4) rfl ?_
                  obtain ⟨r199, hr200, h⟩ := bnd_eq h
                  refine .opg (G.call call168 (.cons .t4 (.cons .t3 (.cons .t2 (.cons .t1 (.cons .t0 .nil))))) (ih v00 y184 (IntKind.i64.wrap ((rshU (Ui (IntKind.i64.wrap (a1 + a3))) 1).toNat : Int)) (IntKind.i64.wrap ((IntKind.i64.wrap ((IntKind.i64.wrap ((rshU (Ui (IntKind.i64.wrap (a1 + a3))) 1).toNat : Int)) + a2)) - s145.2)) a3 r199 hr200) (.cons .k0 .nil) .nil (fun _ _ => rfl) (fun _ _ => rfl) rfl) rfl fun _ _ => ?_
                  refine .drop .k0 ?_
                  refine .nil ?_
                  cases h
                  exact .finwn () (.r0 rfl) trivial (Ls.of (.cons .k0 .nil)) .nil
                · rw [if_neg (ne_true_of_eq_false c198)] at h
                  refine .skip ?_
                  cases h
                  exact .finwn () (.r0 rfl) trivial (Ls.of (.cons .k0 .nil)) .nil
attribute [irreducible] slices_symMergeCmpFunc_i168_m_f78_k
noncomputable def slices_stableCmpFunc_i129_m_f78 (a0 : List clock_Stamp) (a1 : Int) : Option ((List clock_Stamp)) :=
  Option.bind (loopW (fun (s1 : Int × Int × (List clock_Stamp)) => if (decide (s1.1 ≤ a1)) = true then (Option.bind (slices_insertionSortCmpFunc_i167_m_f78 s1.2.2 s1.2.1 s1.1) fun r11 => some (.nx ((IntKind.i64.wrap (s1.1 + 20), s1.1, r11)))) else (some (.br (s1.1, s1.2.1, s1.2.2)))) (20, 0, a0)) fun o3 => Lo.on o3 fun (s1 : Int × Int × (List clock_Stamp)) => Option.bind (slices_insertionSortCmpFunc_i167_m_f78 s1.2.2 s1.2.1 a1) fun r15 => Option.bind (loopW (fun (s17 : Int × (List clock_Stamp)) => if (decide (s17.1 < a1)) = true then (Option.bind (loopW (fun (s27 : Int × Int × (List clock_Stamp)) => if (decide (s27.1 ≤ a1)) = true then (Option.bind (slices_symMergeCmpFunc_i168_m_f78_k 100 s27.2.2 s27.2.1 (IntKind.i64.wrap (s27.2.1 + s17.1)) s27.1) fun r37 => some (.nx ((IntKind.i64.wrap (s27.1 + (IntKind.i64.wrap (2 * s17.1))), s27.1, r37)))) else (some (.br (s27.1, s27.2.1, s27.2.2)))) ((IntKind.i64.wrap (2 * s17.1), 0, s17.2))) fun o29 => Lo.on o29 fun (s27 : Int × Int × (List clock_Stamp)) => Option.bind (if (decide ((IntKind.i64.wrap (s27.2.1 + s17.1)) < a1)) = true then (Option.bind (slices_symMergeCmpFunc_i168_m_f78_k 100 s27.2.2 s27.2.1 (IntKind.i64.wrap (s27.2.1 + s17.1)) a1) fun r45 => some r45) else (some s27.2.2)) fun (y41 : (List clock_Stamp)) => some (.nx ((IntKind.i64.wrap (s17.1 * 2), y41)))) else (some (.br (s17.1, s17.2)))) (20, r15)) fun o19 => Lo.on o19 fun (s17 : Int × (List clock_Stamp)) => some s17.2
set_option maxRecDepth 20000 in
set_option maxHeartbeats 1000000 in
theorem S_slices_stableCmpFunc_i129_m_f78 (v00 : Value) (a0 : List clock_Stamp) (a1 : Int) (r : (List clock_Stamp)) (h : slices_stableCmpFunc_i129_m_f78 a0 a1 = some r) :
    SpecF Try.prog 129 [v00, N a1, fnv 78 []] [lst 72 29 v00 (a0.map clock_Stamp.cs)] [] (fun _ : Unit => True) (fun z => Tu []) (fun z M => lst 72 29 v00 (r.map clock_Stamp.cs) ::  M) (fun z M =>  M) := by
  refine .of func129 rfl ntmps129 rfl fun w0 D0 G0 => ?_
  unfold slices_stableCmpFunc_i129_m_f78 at h
  refine .seq ?_
  refine .reg rfl ?_
  refine .opp (P.asg .k) rfl ?_
  refine .nil ?_
  refine .then ?_
  refine .seq ?_
  refine .reg rfl ?_
  refine .opp (P.mov .g0) rfl ?_
  refine .opp (P.asg .k) rfl ?_
  refine .opp (P.asg .t1) rfl ?_
  refine .nil ?_
  refine .then ?_
  refine .seq ?_
  refine .block ?_
  obtain ⟨o3, ho4, h⟩ := bnd_eq h
  refine .loopW (γ := Unit) (fun (s1 : Int × Int × (List clock_Stamp)) z2 => [(8, N s1.1), (7, N s1.2.1), (6, N 20), (0, v00), (1, N a1), (2, fnv 78 [])]) (fun (s1 : Int × Int × (List clock_Stamp)) z2 => [lst 72 29 v00 (s1.2.2.map clock_Stamp.cs)]) (fun (s1 : Int × Int × (List clock_Stamp)) z2 => []) () ho4 (.cons Mm.m0 (.cons Mm.m1 (.cons Mm.m2 (.cons Mm.m3 (.cons Mm.m4 (.cons Mm.m5 .nil)))))) (.of (.cons .k0 .nil)) .nil (fun n9 s1 z2 hr7 => ?_)
  obtain ⟨ct8, hc5, hn6⟩ := loopK_at hr7
  refine .seq ?_
  refine .seq ?_
  refine .reg rfl ?_
  refine .opp (P.mov .g0) rfl ?_
  refine .opp (P.mov .g5) rfl ?_
  refine .opp (P.bin .t1 .t0 .leq) rfl ?_
  refine .nil ?_
  refine .then ?_
  refine .cond .t0 (fun c10 => ?_) (fun c10 => ?_)
  · rw [if_pos c10] at hc5
    refine .skip ?_
    refine .then ?_
    refine .block ?_
    refine .seq ?_
    refine .reg rfl ?_
    refine .opp (P.mov .g3) rfl ?_
    refine .opp (P.mov .t2) rfl ?_
    refine .opp (P.mov .g2) rfl ?_
    refine .opp (P.mov .g7) rfl ?_
    obtain ⟨r11, hr12, hc5⟩ := bnd_eq hc5
    refine .opg (G.call call167 (.cons .t3 (.cons .t2 (.cons .t1 (.cons .t0 .nil)))) (S_slices_insertionSortCmpFunc_i167_m_f78 v00 s1.2.2 s1.2.1 s1.1 r11 hr12) (.cons .k0 .nil) .nil (fun _ _ => rfl) (fun _ _ => rfl) rfl) rfl fun _ _ => ?_
    refine .drop .k0 ?_
    refine .nil ?_
    refine .then ?_
    refine .seq ?_
    refine .reg rfl ?_
    refine .opp (P.mov .g0) rfl ?_
    refine .opp (P.asg .t0) rfl ?_
    refine .nil ?_
    refine .then ?_
    refine .reg rfl ?_
    refine .opp (P.mov .g1) rfl ?_
    refine .opp (P.mov .g3) rfl ?_
    refine .opp (P.bin .t1 .t0 .add) rfl ?_
    refine .drop .k2 ?_
    refine .opp (P.asg .t0) rfl ?_
    refine .nil ?_
    refine .inn ?_
    cases hc5
    obtain ⟨m13, hm14, hn6⟩ := hn6
    exact .rdW ((IntKind.i64.wrap (s1.1 + 20), s1.1, r11)) () hm14 hn6 (.cons Mm.m0 (.cons Mm.m1 (.cons Mm.m2 (.cons Mm.m3 (.cons Mm.m4 (.cons Mm.m5 .nil)))))) (.of (.cons .k0 .nil)) .nil
  · rw [if_neg (ne_true_of_eq_false c10)] at hc5
    refine .exit ?_
    refine .thx ?_
    cases hc5
    refine .told (γ := Unit) h hn6 (fun (s1 : Int × Int × (List clock_Stamp)) _ => [(8, N s1.1), (7, N s1.2.1), (6, N 20), (0, v00), (1, N a1), (2, fnv 78 [])]) (fun (s1 : Int × Int × (List clock_Stamp)) _ => [lst 72 29 v00 (s1.2.2.map clock_Stamp.cs)]) (fun (s1 : Int × Int × (List clock_Stamp)) _ => []) () (.cons Mm.m0 (.cons Mm.m1 (.cons Mm.m2 (.cons Mm.m3 (.cons Mm.m4 (.cons Mm.m5 .nil)))))) (.of (.cons .k0 .nil)) .nil (fun s1 _ h' => ?_)
    replace h := h'
    refine .thx ?_
    refine .inb ?_
    refine .then ?_
    refine .seq ?_
    refine .reg rfl ?_
    refine .opp (P.mov .g3) rfl ?_
    refine .opp (P.mov .t2) rfl ?_
    refine .opp (P.mov .g5) rfl ?_
    refine .opp (P.mov .g7) rfl ?_
    obtain ⟨r15, hr16, h⟩ := bnd_eq h
    refine .opg (G.call call167 (.cons .t3 (.cons .t2 (.cons .t1 (.cons .t0 .nil)))) (S_slices_insertionSortCmpFunc_i167_m_f78 v00 s1.2.2 s1.2.1 a1 r15 hr16) (.cons .k0 .nil) .nil (fun _ _ => rfl) (fun _ _ => rfl) rfl) rfl fun _ _ => ?_
    refine .drop .k0 ?_
    refine .nil ?_
    refine .then ?_
    refine .block ?_
    obtain ⟨o19, ho20, h⟩ := bnd_eq h
    refine .loopW (γ := Unit) (fun (s17 : Int × (List clock_Stamp)) z18 => [(6, N s17.1), (0, v00), (1, N a1), (2, fnv 78 [])]) (fun (s17 : Int × (List clock_Stamp)) z18 => [lst 72 29 v00 (s17.2.map clock_Stamp.cs)]) (fun (s17 : Int × (List clock_Stamp)) z18 => []) () ho20 (.cons Mm.m1 (.cons Mm.m2 (.cons Mm.m3 (.cons Mm.m4 .nil)))) (.of (.cons .k0 .nil)) .nil (fun n25 s17 z18 hr23 => ?_)
    obtain ⟨ct24, hc21, hn22⟩ := loopK_at hr23
    refine .seq ?_
    refine .seq ?_
    refine .reg rfl ?_
    refine .opp (P.mov .g0) rfl ?_
    refine .opp (P.mov .g3) rfl ?_
    refine .opp (P.bin .t1 .t0 .lss) rfl ?_
    refine .nil ?_
    refine .then ?_
    refine .cond .t0 (fun c26 => ?_) (fun c26 => ?_)
    · rw [if_pos c26] at hc21
      refine .skip ?_
      refine .then ?_
      refine .block ?_
      refine .seq ?_
      refine .reg rfl ?_
      refine .opp (P.mov .g0) rfl ?_
      refine .opp (P.bin .k .t0 .mul) rfl ?_
      refine .opp (P.asg .k) rfl ?_
      refine .opp (P.asg .t1) rfl ?_
      refine .nil ?_
      refine .then ?_
      refine .seq ?_
      refine .block ?_
      obtain ⟨o29, ho30, hc21⟩ := bnd_eq hc21
      refine .loopW (γ := Unit) (fun (s27 : Int × Int × (List clock_Stamp)) z28 => [(8, N s27.1), (7, N s27.2.1), (6, N s17.1), (0, v00), (1, N a1), (2, fnv 78 [])]) (fun (s27 : Int × Int × (List clock_Stamp)) z28 => [lst 72 29 v00 (s27.2.2.map clock_Stamp.cs)]) (fun (s27 : Int × Int × (List clock_Stamp)) z28 => []) () ho30 (.cons Mm.m0 (.cons Mm.m1 (.cons Mm.m2 (.cons Mm.m3 (.cons Mm.m4 (.cons Mm.m5 .nil)))))) (.of (.cons .k0 .nil)) .nil (fun n35 s27 z28 hr33 => ?_)
      obtain ⟨ct34, hc31, hn32⟩ := loopK_at hr33
      refine .seq ?_
      refine .seq ?_
      refine .reg rfl ?_
      refine .opp (P.mov .g0) rfl ?_
      refine .opp (P.mov .g5) rfl ?_
      refine .opp (P.bin .t1 .t0 .leq) rfl ?_
      refine .nil ?_
      refine .then ?_
      refine .cond .t0 (fun c36 => ?_) (fun c36 => ?_)
      · rw [if_pos c36] at hc31
        refine .skip ?_
        refine .then ?_
        refine .block ?_
        refine .seq ?_
        refine .reg rfl ?_
        refine .opp (P.mov .g3) rfl ?_
        refine .opp (P.mov .g2) rfl ?_
        refine .opp (P.mov .t3) rfl ?_
        refine .opp (P.mov .g4) rfl ?_
        refine .opp (P.bin .t1 .t0 .add) rfl ?_
        refine .opp (P.mov .g3) rfl ?_
        refine .opp (P.mov .g8) rfl ?_
        obtain ⟨r37, hr38, hc31⟩ := bnd_eq hc31
        refine .opg (G.call call168 (.cons .t4 (.cons .t3 (.cons .t2 (.cons .t1 (.cons .t0 .nil))))) (S_slices_symMergeCmpFunc_i168_m_f78 100 v00 s27.2.2 s27.2.1 (IntKind.i64.wrap (s27.2.1 + s17.1)) s27.1 r37 hr38) (.cons .k0 .nil) .nil (fun _ _ => rfl) (fun _ _ => rfl) rfl) rfl fun _ _ => ?_
        refine .drop .k0 ?_
        refine .nil ?_
        refine .then ?_
        refine .seq ?_
        refine .reg rfl ?_
        refine .opp (P.mov .g0) rfl ?_
        refine .opp (P.asg .t0) rfl ?_
        refine .nil ?_
        refine .then ?_
        refine .reg rfl ?_
        refine .opp (P.mov .g1) rfl ?_
        refine .opp (P.mov .g3) rfl ?_
        refine .opp (P.bin .k .t0 .mul) rfl ?_
        refine .opp (P.bin .t1 .t0 .add) rfl ?_
        refine .drop .k2 ?_
        refine .opp (P.asg .t0) rfl ?_
        refine .nil ?_
        refine .inn ?_
        cases hc31
        obtain ⟨m39, hm40, hn32⟩ := hn32
        exact .rdW ((IntKind.i64.wrap (s27.1 + (IntKind.i64.wrap (2 * s17.1))), s27.1, r37)) () hm40 hn32 (.cons Mm.m0 (.cons Mm.m1 (.cons Mm.m2 (.cons Mm.m3 (.cons Mm.m4 (.cons Mm.m5 .nil)))))) (.of (.cons .k0 .nil)) .nil
      · rw [if_neg (ne_true_of_eq_false c36)] at hc31
        refine .exit ?_
        refine .thx ?_
        cases hc31
        refine .told (γ := Unit) hc21 hn32 (fun (s27 : Int × Int × (List clock_Stamp)) _ => [(8, N s27.1), (7, N s27.2.1), (6, N s17.1), (0, v00), (1, N a1), (2, fnv 78 [])]) (fun (s27 : Int × Int × (List clock_Stamp)) _ => [lst 72 29 v00 (s27.2.2.map clock_Stamp.cs)]) (fun (s27 : Int × Int × (List clock_Stamp)) _ => []) () (.cons Mm.m0 (.cons Mm.m1 (.cons Mm.m2 (.cons Mm.m3 (.cons Mm.m4 (.cons Mm.m5 .nil)))))) (.of (.cons .k0 .nil)) .nil (fun s27 _ hc21' => ?_)
        replace hc21 := hc21'
        refine .thx ?_
        refine .inb ?_
        refine .then ?_
        obtain ⟨y41, hj43, hc21⟩ := bnd_eq hc21
        refine .cutx (γ := Unit) (E1 := fun z42 => [(6, N s17.1), (0, v00), (1, N a1), (2, fnv 78 [])]) (L1 := fun z42 => [lst 72 29 v00 (y41.map clock_Stamp.cs)]) (R1 := fun z42 => []) ?_ (fun z42 => ?_)
        · clear hc21
          refine .seq ?_
          refine .reg rfl ?_
          refine .opp (P.mov .g1) rfl ?_
          refine .opp (P.mov .g3) rfl ?_
          refine .opp (P.bin .t1 .t0 .add) rfl ?_
          refine .opp (P.asg .t0) rfl ?_
          refine .nil ?_
          refine .then ?_
          refine .seq ?_
          refine .reg rfl ?_
          refine .opp (P.mov .g0) rfl ?_
          refine .opp (P.mov .g6) rfl ?_
          refine .opp (P.bin .t1 .t0 .lss) rfl ?_
          refine .nil ?_
          refine .then ?_
          refine .cond .t0 (fun c44 => ?_) (fun c44 => ?_)
          · rw [if_pos c44] at hj43
            refine .reg rfl ?_
            refine .opp (P.mov .g4) rfl ?_
            refine .opp (P.mov .t3) rfl ?_
            refine .opp (P.mov .t2) rfl ?_
            refine .opp (P.mov .g6) rfl ?_
            refine .opp (P.mov .g8) rfl ?_
            obtain ⟨r45, hr46, hj43⟩ := bnd_eq hj43
            refine .opg (G.call call168 (.cons .t4 (.cons .t3 (.cons .t2 (.cons .t1 (.cons .t0 .nil))))) (S_slices_symMergeCmpFunc_i168_m_f78 100 v00 s27.2.2 s27.2.1 (IntKind.i64.wrap (s27.2.1 + s17.1)) a1 r45 hr46) (.cons .k0 .nil) .nil (fun _ _ => rfl) (fun _ _ => rfl) rfl) rfl fun _ _ => ?_
            refine .drop .k0 ?_
            refine .nil ?_
            cases hj43
            exact .stj () (.cons Mm.m1 (.cons Mm.m2 (.cons Mm.m3 (.cons Mm.m4 .nil)))) (.of (.cons .k0 .nil)) .nil
          · rw [if_neg (ne_true_of_eq_false c44)] at hj43
            refine .skip ?_
            cases hj43
            exact .stj () (.cons Mm.m3 (.cons Mm.m4 (.cons Mm.m5 (.cons Mm.m6 .nil)))) (.of (.cons .k0 .nil)) .nil
        · clear hj43
          refine .reg rfl ?_
          refine .opp (P.mov .g0) rfl ?_
          refine .opp (P.bin .t0 .k .mul) rfl ?_
          refine .drop .k1 ?_
          refine .opp (P.asg .t0) rfl ?_
          refine .nil ?_
          refine .inn ?_
          cases hc21
          obtain ⟨m47, hm48, hn22⟩ := hn22
          exact .rdW ((IntKind.i64.wrap (s17.1 * 2), y41)) () hm48 hn22 (.cons Mm.m0 (.cons Mm.m1 (.cons Mm.m2 (.cons Mm.m3 .nil)))) (.of (.cons .k0 .nil)) .nil
    · rw [if_neg (ne_true_of_eq_false c26)] at hc21
      refine .exit ?_
      refine .thx ?_
      cases hc21
      refine .told (γ := Unit) h hn22 (fun (s17 : Int × (List clock_Stamp)) _ => [(6, N s17.1), (0, v00), (1, N a1), (2, fnv 78 [])]) (fun (s17 : Int × (List clock_Stamp)) _ => [lst 72 29 v00 (s17.2.map clock_Stamp.cs)]) (fun (s17 : Int × (List clock_Stamp)) _ => []) () (.cons Mm.m0 (.cons Mm.m1 (.cons Mm.m2 (.cons Mm.m3 .nil)))) (.of (.cons .k0 .nil)) .nil (fun s17 _ h' => ?_)
      replace h := h'
      refine .thx ?_
      refine .inb ?_
      cases h
      exact .finwn () (.r0 rfl) trivial (Ls.of (.cons .k0 .nil)) .nil
attribute [irreducible] slices_stableCmpFunc_i129_m_f78
noncomputable def slices_SortStableFunc_i77_m_f78 (a0 : List clock_Stamp) : Option ((List clock_Stamp)) :=
  Option.bind (slices_stableCmpFunc_i129_m_f78 a0 ((a0.length : Int))) fun r1 => some r1
set_option maxRecDepth 20000 in
set_option maxHeartbeats 1000000 in
theorem S_slices_SortStableFunc_i77_m_f78 (v00 : Value) (a0 : List clock_Stamp) (r : (List clock_Stamp)) (h : slices_SortStableFunc_i77_m_f78 a0 = some r) :
    SpecF Try.prog 77 [v00, fnv 78 []] [lst 72 29 v00 (a0.map clock_Stamp.cs)] [] (fun _ : Unit => True) (fun z => Tu []) (fun z M => lst 72 29 v00 (r.map clock_Stamp.cs) ::  M) (fun z M =>  M) := by
  refine .of func77 rfl ntmps77 rfl fun w0 D0 G0 => ?_
  unfold slices_SortStableFunc_i77_m_f78 at h
  refine .reg rfl ?_
  refine .opp (P.mov .g0) rfl ?_
  refine .opp (P.mov .t1) rfl ?_
  refine .op (V.lnl (n := a0.length) .t0 .k0 map_len runUnderlying68) rfl ?_
  refine .opp (P.mov .t2) rfl ?_
  obtain ⟨r1, hr2, h⟩ := bnd_eq h
  refine .opg (G.call call129 (.cons .t2 (.cons .t1 (.cons .t0 .nil))) (S_slices_stableCmpFunc_i129_m_f78 v00 a0 ((a0.length : Int)) r1 hr2) (.cons .k0 .nil) .nil (fun _ _ => rfl) (fun _ _ => rfl) rfl) rfl fun _ _ => ?_
  refine .drop .k0 ?_
  refine .nil ?_
  cases h
  exact .finwn () (.r0 rfl) trivial (Ls.of (.cons .k0 .nil)) .nil
attribute [irreducible] slices_SortStableFunc_i77_m_f78
noncomputable def clock_Merge (a0 : List api_Event) (a1 : List api_Event) (a2 : Int) : Option ((List clock_Stamp)) :=
  Option.bind (clock_stamps a0 0 a2) fun r1 => Option.bind (clock_stamps a1 1 a2) fun r4 => Option.bind (slices_Concat_i75_n2 r1 r4) fun r10 => Option.bind (slices_SortStableFunc_i77_m_f78 r10) fun r13 => some r13
set_option maxRecDepth 20000 in
set_option maxHeartbeats 1000000 in
theorem S_clock_Merge (v00 : Value) (a0 : List api_Event) (v01 : Value) (a1 : List api_Event) (a2 : Int) (r : (List clock_Stamp)) (h : clock_Merge a0 a1 a2 = some r) :
    SpecF Try.prog 30 [v00, v01, N a2] [] [rows 27 v00 (a0.map api_Event.cs), rows 27 v01 (a1.map api_Event.cs)] (fun _ : Value => True) (fun z => z) (fun z M => lst 72 29 z (r.map clock_Stamp.cs) ::  M) (fun z M =>  M) := by
  refine .of func30 rfl ntmps30 rfl fun w0 D0 G0 => ?_
  unfold clock_Merge at h
  refine .seq ?_
  refine .reg rfl ?_
  refine .op0 (OpP.toV (P.asg .k)) rfl ?_
  refine .nil ?_
  refine .then ?_
  refine .seq ?_
  refine .reg rfl ?_
  refine .opp (P.mov .t0) rfl ?_
  refine .opp (P.mov .g2) rfl ?_
  obtain ⟨r1, hr2, h⟩ := bnd_eq h
  refine .opg (G.call call76 (.cons .t1 (.cons .k (.cons .t0 .nil))) (S_clock_stamps v00 a0 0 a2 r1 hr2) .nil (.cons Mm.m0 .nil) (fun _ _ => rfl) (fun _ _ => rfl) rfl) rfl fun u3 _ => ?_
  refine .opp (P.mov .t1) rfl ?_
  refine .opp (P.mov .t2) rfl ?_
  obtain ⟨r4, hr5, h⟩ := bnd_eq h
  refine .opg (G.call call76 (.cons .t1 (.cons .k (.cons .t0 .nil))) (S_clock_stamps v01 a1 1 a2 r4 hr5) .nil (.cons Mm.m1 .nil) (fun _ _ => rfl) (fun _ _ => rfl) rfl) rfl fun u6 _ => ?_
  refine .onel .k1 fun ho8 => ?_
  refine .onel .k0 fun ho9 => ?_
  refine .opg (G.bsln (xs := [[u3], [u6]]) (.cons .t1 (.cons .t0 .nil)) runUnderlying197 sizeOf68 zeroValue68 (fill2 ho8 ho9) rfl rfl rfl rfl rfl) rfl fun u7 _ => ?_
  refine .frz .k0 ?_
  refine .frz .k1 ?_
  refine .frz .k0 ?_
  obtain ⟨r10, hr11, h⟩ := bnd_eq h
  refine .opg (G.call call75 (.cons .t0 .nil) (S_slices_Concat_i75_n2 u7 u3 r1 u6 r4 r10 hr11) .nil (.cons Mm.m2 (.cons Mm.m1 (.cons Mm.m0 .nil))) (fun _ _ => rfl) (fun _ _ => rfl) rfl) rfl fun u12 _ => ?_
  refine .opp (P.asg .t0) rfl ?_
  refine .nil ?_
  refine .then ?_
  refine .seq ?_
  refine .reg rfl ?_
  refine .opp (P.mov .g0) rfl ?_
  obtain ⟨r13, hr14, h⟩ := bnd_eq h
  refine .opg (G.call call77 (.cons .t0 (.cons .f .nil)) (S_slices_SortStableFunc_i77_m_f78 u12 r10 r13 hr14) (.cons .k0 .nil) .nil (fun _ _ => rfl) (fun _ _ => rfl) rfl) rfl fun _ _ => ?_
  refine .drop .k0 ?_
  refine .nil ?_
  refine .then ?_
  refine .seq ?_
  refine .reg rfl ?_
  refine .opp (P.mov .t0) rfl ?_
  refine .opp (P.asg .t0) rfl ?_
  refine .nil ?_
  refine .then ?_
  refine .ret ?_
  cases h
  exact .finw u12 (.r1 rfl (.tmp .g0)) trivial (Ls.of (.cons .k0 .nil)) .nil
attribute [irreducible] clock_Merge
end Go.Sl
