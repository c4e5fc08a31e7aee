/- Walked code of the program, its pure functions and their contracts. -/
import Derived.Test.YtjlalcoommhfoaaGreatSlFrb
set_option linter.unusedVariables false
set_option linter.unusedSimpArgs false
namespace Go.Sl
open Go.Proofs Go.Proofs.Tryz
structure escrow_must where
  e_ : Int
  deriving DecidableEq
def escrow_must.cs (x : escrow_must) : List Value := [N x.e_]
def escrow_must.z : escrow_must := ⟨0⟩
theorem fa_90_2 : FaV Tryz.prog 90 2 2 := .mk runUnderlying90 rfl sizeOf86 rfl rfl
theorem fa_90_3 : FaV Tryz.prog 90 3 66 := .mk runUnderlying90 rfl sizeOf86 rfl rfl
theorem fa_90_4 : FaV Tryz.prog 90 4 130 := .mk runUnderlying90 rfl sizeOf87 rfl rfl
theorem fa_90_5 : FaV Tryz.prog 90 5 138 := .mk runUnderlying90 rfl sizeOf84 rfl rfl
theorem fa_90_6 : FaV Tryz.prog 90 6 146 := .mk runUnderlying90 rfl sizeOf77 rfl rfl
theorem fa_90_7 : FaV Tryz.prog 90 7 150 := .mk runUnderlying90 rfl sizeOf88 rfl rfl
theorem fa_93_0 : FaV Tryz.prog 93 0 0 := .mk runUnderlying93 rfl sizeOf90 rfl rfl
theorem fa_316_0 : FaV Tryz.prog 316 0 0 := .mk runUnderlying316 rfl sizeOf26 rfl rfl
theorem fn_195 : Extern.findNext f195 = none := by kernel_rfl
theorem find_195 : Extern.find f195 = some add64Entry := by kernel_rfl
theorem fn_247 : Extern.findNext f247 = none := by kernel_rfl
theorem find_247 : Extern.find f247 = some sub64Entry := by kernel_rfl
theorem pl_316 : ∀ w, ((#[{ name := "e", type := 26, offset := 0, embedded := false, tag := "", pkgPath := "narrows/escrow", byteOffset := 0 }] : Array Field).mapM fun f => do pure (f.offset, ← sizeOf f.type) : Sem (Array (Nat × Nat))).run Tryz.prog w = .ok #[(0, 1)] w := fun w => by simp [sizeOf26]
theorem one_83 (x : api_Tx) : oneAll (api_Tx.cs x) = true := rfl
theorem one_241 (x : escrow_Lock) : oneAll (escrow_Lock.cs x) = true := rfl
noncomputable def slices_Contains_api_Tx (a0 : List api_Tx) (a1 : api_Tx) : Option (Bool) :=
  Option.bind (slices_Index_api_Tx a0 a1) fun r2 => some (decide (r2 ≥ 0))
set_option maxRecDepth 20000 in
set_option maxHeartbeats 8000000 in
theorem S_slices_Contains_api_Tx (v00 : Value) (a0 : List api_Tx) (a1 : api_Tx) (r : Bool) (h : slices_Contains_api_Tx a0 a1 = some r) :
    SpecF Tryz.prog 72 [v00, Ag (api_Tx.cs a1)] [] [rows 25 v00 (a0.map api_Tx.cs)] (fun z : Unit => True) (fun z => Bo r) (fun z M =>  M) (fun z M =>  M) := by
  refine .of func72 rfl ntmps72 rfl fun w0 D0 G0 => ?_
  unfold slices_Contains_api_Tx at h
  refine .seq <| .reg rfl <| .opx (X.box (cs := (api_Tx.cs a1)) .t1 rfl) rfl fun b1 => .op0 (OpP.toV (P.asg .k)) rfl <| .nil <| .then <| .seq <| .reg rfl <| .opp (P.mov .t1) rfl <| .op (V.ld (v := Ag (api_Tx.cs a1)) .t1 .k0 (.agg isAgg83 sizeOf83 rfl rfl)) rfl ?_
  obtain ⟨r2, hr3, h⟩ := bnd_eq h
  refine .opg (G.call call129 (.cons .t1 (.cons .t0 .nil)) (S_slices_Index_api_Tx v00 a0 a1 r2 hr3) .nil (.cons Mm.m0 .nil) (fun _ _ => rfl) (fun _ _ => rfl) rfl) rfl fun _ _ => .opp (P.bin .t0 .k .geq) rfl <| .opp (P.asg .t0) rfl <| .nil <| .then <| .ret ?_
  cases h
  exact .finw () (.r1 rfl (.tmp .g0)) trivial (Ls.of .nil) .nil
attribute [irreducible] slices_Contains_api_Tx
noncomputable def chain_Chain_Submit_bx (a0 : Option chain_Chain) (a1 : api_Tx) : Option (Bool × (Option chain_Chain)) :=
  Option.bind (Option.bind a0 fun (y6 : chain_Chain) => if (!(chain_Chain_is y6)) = true then (some true) else (if (decide ((txs_Check a1) ≠ 0)) = true then (some true) else (if (decide ((y6.pool.length : Int) ≥ 128)) = true then (some true) else (Option.bind (slices_Contains_api_Tx y6.pool a1) fun r15 => some r15)))) fun (y2 : Bool) => if y2 = true then (some (false, a0)) else (Option.bind a0 fun (y19 : chain_Chain) => grd ((y19.pool.length + ([a1] : List api_Tx).length) * 224 ≤ 140737488355328) <| some ((true, (some (⟨y19.s, (y19.pool ++ ([a1] : List api_Tx)), y19.events, y19.made⟩ : chain_Chain)))))
set_option maxRecDepth 20000 in
set_option maxHeartbeats 8000000 in
theorem S_chain_Chain_Submit_bx (v00 : Value) (a0 : Option chain_Chain) (a1 : api_Tx) (r : Bool × (Option chain_Chain)) (h : chain_Chain_Submit_bx a0 a1 = some r) :
    SpecF Tryz.prog 37 [v00, Ag (api_Tx.cs a1)] [bx chain_Chain.bd chain_Chain.fp v00 a0] [] (fun z : Unit => True) (fun z => Bo r.1) (fun z M => bx chain_Chain.bd chain_Chain.fp v00 r.2 ::  M) (fun z M =>  M) := by
  refine .of func37 rfl ntmps37 rfl fun w0 D0 G0 => ?_
  unfold chain_Chain_Submit_bx at h
  refine .seq <| .reg rfl <| .opx (X.box (cs := (api_Tx.cs a1)) .t1 rfl) rfl fun b1 => .op0 (OpP.toV (P.asg .k)) rfl <| .nil <| .then <| .seq ?_
  obtain ⟨y2, hj4, h⟩ := bnd_eq h
  refine .cutx (γ := Unit) (E1 := fun z3 => [(28, Bo y2), (3, pt b1 0), (0, v00)]) (L1 := fun z3 => [blk b1 83 (api_Tx.cs a1), bx chain_Chain.bd chain_Chain.fp v00 a0]) (R1 := fun z3 => []) ?_ (fun z3 => ?_)
  · clear h
    obtain ⟨y6, hy7, hj4⟩ := bnd_eq hj4
    refine .bxo .k1 hy7 (fun _ _ _ => rfl) fun ⟨b8, u9, u10, u11⟩ hz5 => ?_
    replace hz5 : v00 = pt b8 0 := hz5
    subst hz5
    refine .draw 24 (.on 0 .pu (.on 1 .go (.on 2 .pu (.on 3 .pu (.on 4 .ld (.on 5 .go (.on 6 .pu (.on 7 .pu (.on 8 .pu (.on 9 .pu (.on 10 .pu (.on 11 .pu (.on 12 .ld (.on 13 .ld (.on 14 .pu (.on 15 .pu (.on 16 .pu (.on 17 .pu (.on 18 .pu (.on 19 .pu (.on 20 .ld (.on 21 .ld (.on 22 .go (.on 23 .pu .nl)))))))))))))))))))))))) follows_mixed (.thn (.thn .body)) (by kernel_rfl) <| .dpu rfl (.n rfl) (P.mov .g1) rfl rfl <| .dgo rfl (.n rfl) (G.call call25 (.cons .t0 .nil) (S_chain_Chain_is b8 y6 u9 u10 u11 _ rfl) (.cons .k0 (.cons .k0 (.cons .k0 (.cons .k0 .nil)))) .nil (fun _ _ => rfl) (fun _ _ => rfl) rfl) (.inr fun _ _ _ h => h) fun _ _ => .dpu rfl (.n rfl) (P.not .t0) rfl rfl <| .dpu rfl (.n rfl) (P.mov .t0) rfl rfl <| .split .k0 (fun c12 => ?_) (fun c12 => ?_)
    · rw [if_pos c12] at hj4
      refine .dskl rfl (.g rfl rfl .g0 rfl) (fun _ h => h) rfl rfl <| .dskg rfl (.g rfl rfl .g0 rfl) (.inr fun _ h => h) rfl rfl <| .dsk rfl (.g rfl rfl .g0 rfl) rfl rfl <| .dpu rfl (.n rfl) (P.pickT .t0 .k) rfl rfl <| .dpu rfl (.n rfl) (P.mov .t0) rfl rfl <| .dsk rfl (.g rfl rfl .g0 rfl) rfl rfl <| .dsk rfl (.g rfl rfl .g0 rfl) rfl rfl <| .dsk rfl (.g rfl rfl .g0 rfl) rfl rfl <| .dskl rfl (.g rfl rfl .g0 rfl) (fun _ h => h) rfl rfl <| .dskl rfl (.g rfl rfl .g0 rfl) (fun _ h => h) rfl rfl <| .dsk rfl (.g rfl rfl .g0 rfl) rfl rfl <| .dpu rfl (.n rfl) (P.pickT .t0 .k) rfl rfl ?_
      refine .dpu rfl (.n rfl) (P.mov .t0) rfl rfl <| .dsk rfl (.g rfl rfl .g0 rfl) rfl rfl <| .dsk rfl (.g rfl rfl .g0 rfl) rfl rfl <| .dsk rfl (.g rfl rfl .g0 rfl) rfl rfl <| .dskl rfl (.g rfl rfl .g0 rfl) (fun _ h => h) rfl rfl <| .dskl rfl (.g rfl rfl .g0 rfl) (fun _ h => h) rfl rfl <| .dskg rfl (.g rfl rfl .g0 rfl) (.inr fun _ h => h) rfl rfl <| .dpu rfl (.n rfl) (P.pickT .t0 .k) rfl rfl <| .dnil ?_
      cases hj4
      exact .bxc chain_Chain.bd chain_Chain.fp (b8, u9, u10, u11) y6 (z := (pt b8 0)) rfl (.cons .k0 (.cons .k0 (.cons .k0 (.cons .k0 .nil)))) <| .conseq .k0 (q := bx chain_Chain.bd chain_Chain.fp (pt b8 0) a0) (fun _ h_ => by rw [hy7]; exact h_) <| .stj () (.cons Mm.m0 (.cons Mm.m1 (.cons Mm.m2 .nil))) (.of (.cons .k1 (.cons .k0 .nil))) .nil
    · rw [if_neg (ne_true_of_eq_false c12)] at hj4
      refine .dld rfl (.g rfl rfl .g0 rfl) (V.ld (v := Ag (api_Tx.cs a1)) .g1 .k4 (.agg isAgg83 sizeOf83 rfl rfl)) (fun _ h => h) rfl rfl <| .dgo rfl (.g rfl rfl .g1 rfl) (G.call call71 (.cons .t0 .nil) (S_txs_Check a1 _ rfl) .nil .nil (fun _ _ => rfl) (fun _ _ => rfl) rfl) (.inr fun _ _ _ h => h) fun _ _ => .dpu rfl (.g rfl rfl .g1 rfl) (P.bin .t0 .k .neq) rfl rfl <| .dpu rfl (.n rfl) (P.pickF .t1 .t0) rfl rfl <| .dpu rfl (.n rfl) (P.mov .t0) rfl rfl <| .split .k0 (fun c13 => ?_) (fun c13 => ?_)
      · rw [if_pos c13] at hj4
        refine .dsk rfl (.g rfl rfl .g0 rfl) rfl rfl <| .dsk rfl (.g rfl rfl .g0 rfl) rfl rfl <| .dsk rfl (.g rfl rfl .g0 rfl) rfl rfl <| .dskl rfl (.g rfl rfl .g0 rfl) (fun _ h => h) rfl rfl <| .dskl rfl (.g rfl rfl .g0 rfl) (fun _ h => h) rfl rfl <| .dsk rfl (.g rfl rfl .g0 rfl) rfl rfl <| .dpu rfl (.n rfl) (P.pickT .t0 .k) rfl rfl <| .dpu rfl (.n rfl) (P.mov .t0) rfl rfl <| .dsk rfl (.g rfl rfl .g0 rfl) rfl rfl <| .dsk rfl (.g rfl rfl .g0 rfl) rfl rfl <| .dsk rfl (.g rfl rfl .g0 rfl) rfl rfl <| .dskl rfl (.g rfl rfl .g0 rfl) (fun _ h => h) rfl rfl ?_
        refine .dskl rfl (.g rfl rfl .g0 rfl) (fun _ h => h) rfl rfl <| .dskg rfl (.g rfl rfl .g0 rfl) (.inr fun _ h => h) rfl rfl <| .dpu rfl (.n rfl) (P.pickT .t0 .k) rfl rfl <| .dnil ?_
        cases hj4
        exact .bxc chain_Chain.bd chain_Chain.fp (b8, u9, u10, u11) y6 (z := (pt b8 0)) rfl (.cons .k0 (.cons .k0 (.cons .k0 (.cons .k0 .nil)))) <| .conseq .k0 (q := bx chain_Chain.bd chain_Chain.fp (pt b8 0) a0) (fun _ h_ => by rw [hy7]; exact h_) <| .stj () (.cons Mm.m0 (.cons Mm.m1 (.cons Mm.m2 .nil))) (.of (.cons .k1 (.cons .k0 .nil))) .nil
      · rw [if_neg (ne_true_of_eq_false c13)] at hj4
        refine .dpu rfl (.g rfl rfl .g0 rfl) (P.mov .g2) rfl rfl <| .dpu rfl (.g rfl rfl .g1 rfl) (P.nilc .t0) rfl rfl <| .dpu rfl (.g rfl rfl .g1 rfl) (P.fa .t0 fa_93_1 rfl) rfl rfl <| .dld rfl (.g rfl rfl .g1 rfl) (V.ld (v := u10) .t0 .k0 (.one isAgg31 rfl)) (fun _ h => h) rfl rfl <| .dld rfl (.g rfl rfl .g1 rfl) (V.lnl (n := y6.pool.length) .t0 .k2 map_len runUnderlying31) (fun _ h => h) rfl rfl <| .dpu rfl (.g rfl rfl .g1 rfl) (P.bin .t0 .k .geq) rfl rfl <| .dpu rfl (.n rfl) (P.pickF .t1 .t0) rfl rfl <| .dpu rfl (.n rfl) (P.mov .t0) rfl rfl <| .split .k0 (fun c14 => ?_) (fun c14 => ?_)
        · rw [if_pos c14] at hj4
          refine .dsk rfl (.g rfl rfl .g0 rfl) rfl rfl <| .dsk rfl (.g rfl rfl .g0 rfl) rfl rfl <| .dsk rfl (.g rfl rfl .g0 rfl) rfl rfl <| .dskl rfl (.g rfl rfl .g0 rfl) (fun _ h => h) rfl rfl <| .dskl rfl (.g rfl rfl .g0 rfl) (fun _ h => h) rfl rfl <| .dskg rfl (.g rfl rfl .g0 rfl) (.inr fun _ h => h) rfl rfl <| .dpu rfl (.n rfl) (P.pickT .t0 .k) rfl rfl <| .dnil ?_
          cases hj4
          exact .bxc chain_Chain.bd chain_Chain.fp (b8, u9, u10, u11) y6 (z := (pt b8 0)) rfl (.cons .k0 (.cons .k0 (.cons .k0 (.cons .k0 .nil)))) <| .conseq .k0 (q := bx chain_Chain.bd chain_Chain.fp (pt b8 0) a0) (fun _ h_ => by rw [hy7]; exact h_) <| .stj () (.cons Mm.m0 (.cons Mm.m1 (.cons Mm.m2 .nil))) (.of (.cons .k1 (.cons .k0 .nil))) .nil
        · rw [if_neg (ne_true_of_eq_false c14)] at hj4
          refine .dpu rfl (.g rfl rfl .g0 rfl) (P.mov .g2) rfl rfl <| .dpu rfl (.g rfl rfl .g1 rfl) (P.nilc .t0) rfl rfl <| .dpu rfl (.g rfl rfl .g1 rfl) (P.fa .t0 fa_93_1 rfl) rfl rfl <| .dld rfl (.g rfl rfl .g1 rfl) (V.ld (v := u10) .t0 .k0 (.one isAgg31 rfl)) (fun _ h => h) rfl rfl <| .dld rfl (.g rfl rfl .g1 rfl) (V.ld (v := Ag (api_Tx.cs a1)) .g2 .k4 (.agg isAgg83 sizeOf83 rfl rfl)) (fun _ h => h) rfl rfl ?_
          obtain ⟨r15, hr16, hj4⟩ := bnd_eq hj4
          refine .dgo rfl (.g rfl rfl .g2 rfl) (G.calll call72 (.cons .t1 (.cons .t0 .nil)) (S_slices_Contains_api_Tx u10 y6.pool a1 r15 hr16) .nil (.imp (List.mem_append_right _ Mm.m2) (fun _ => lst_rows) .nil) (fun _ _ => rfl) rfl) (.inr fun _ _ _ h => h) fun _ _ => .dpu rfl (.n rfl) (P.pickF .t1 .t0) rfl rfl <| .dnil ?_
          cases hj4
          exact .bxc chain_Chain.bd chain_Chain.fp (b8, u9, u10, u11) y6 (z := (pt b8 0)) rfl (.cons .k0 (.cons .k0 (.cons .k0 (.cons .k0 .nil)))) <| .conseq .k0 (q := bx chain_Chain.bd chain_Chain.fp (pt b8 0) a0) (fun _ h_ => by rw [hy7]; exact h_) <| .stj () (.cons Mm.m0 (.cons Mm.m1 (.cons Mm.m2 .nil))) (.of (.cons .k1 (.cons .k0 .nil))) .nil
  · clear hj4
    refine .cond .t0 (fun c17 => ?_) (fun c17 => ?_)
    · rw [if_pos c17] at h
      refine .seq <| .reg rfl <| .opp (P.asg .k) rfl <| .nil <| .then <| .ret <| .thr ?_
      cases h
      exact .finw () (.r1 rfl (.tmp .g0)) trivial (Ls.of (.cons .k1 .nil)) .nil
    · rw [if_neg (ne_true_of_eq_false c17)] at h
      refine .skip <| .then <| .seq ?_
      obtain ⟨y19, hy20, h⟩ := bnd_eq h
      refine .bxo .k1 hy20 (fun _ _ _ => rfl) fun ⟨b21, u22, u23, u24⟩ hz18 => ?_
      replace hz18 : v00 = pt b21 0 := hz18
      subst hz18
      obtain ⟨hb27, h⟩ := grd_eq h
      refine .dcut (γ := Value × Value) (φ := fun _ => True) (E1 := fun x_ => []) (L1 := fun x_ => [blk b21 93 (chain_Chain.cs ⟨y19.s, [], y19.events, y19.made⟩ u22 x_.2 u24), lst 83 25 x_.2 ((y19.pool ++ ([a1] : List api_Tx)).map api_Tx.cs), lst 83 25 x_.1 [(api_Tx.cs a1)], lst 241 3 u22 (y19.s.Locks.map escrow_Lock.cs), lst 162 27 u24 (y19.events.map api_Event.cs), blk b1 83 (api_Tx.cs a1)]) (R1 := fun x_ => []) ?_ (fun x_ _ => ?_)
      · refine .draw 6 (.on 0 .pu (.on 1 .pu (.on 2 .pu (.on 3 .pu (.on 5 .ld (.fk 4 6 (.on 6 .go (.on 7 .go (.on 8 .pu (.on 9 .pu (.on 10 .go .nl))))) (.on 4 .go (.on 7 .go (.on 8 .pu (.on 9 .pu (.on 10 .go .nl))))))))))) follows_mixed (.thn (.thn .body)) (by kernel_rfl) <| .dpu rfl (.n rfl) (P.mov .g1) rfl rfl <| .dpu rfl (.n rfl) (P.mov .t2) rfl rfl <| .dpu rfl (.n rfl) (P.nilc .t0) rfl rfl <| .dpu rfl (.n rfl) (P.fa .t0 fa_93_1 rfl) rfl rfl <| .dld rfl (.n rfl) (V.ld (v := Ag (api_Tx.cs a1)) .t2 .k4 (.agg isAgg83 sizeOf83 rfl rfl)) (fun _ h => h) rfl rfl <| .dfk ?_ ?_
        · exact .dgo rfl (.n rfl) (OpV.g (V.ld (v := u23) .t1 .k0 (.one isAgg31 rfl)) rfl) (.inr fun _ _ _ h => h) fun _ _ => .dgo rfl (.n rfl) (G.bsl (cs := (api_Tx.cs a1)) .t1 runUnderlying31 sizeOf83 zeroValue83 rfl rfl rfl rfl rfl) (.inl rfl) fun u25 _ => .dgo rfl (.n rfl) (G.app (by_ := 224) .t1 .t0 .k3 (.inr (.inr ⟨_, Mm.m0⟩)) runUnderlying31 runUnderlying31 sizeOf83 typeInfo83 rfl rfl zeroValue83 rfl rfl (by simpa using hb27) rfl) (.inl rfl) fun u26 _ => .conseq .k0 (q := lst 83 25 u26 ((y19.pool ++ ([a1] : List api_Tx)).map api_Tx.cs)) (fun _ hh => by simpa [List.map_append] using hh) <| .dpu rfl (.n rfl) (P.nilc .t1) rfl rfl <| .dpu rfl (.n rfl) (P.fa .t0 fa_93_1 rfl) rfl rfl <| .onel .k0 fun ho28 => .dgo rfl (.n rfl) (G.str .t1 .t0 .k2 (.mk1 (cs' := (chain_Chain.cs ⟨y19.s, [], y19.events, y19.made⟩ u22 u26 u24)) sizeOf31 rfl ho28 rfl rfl)) (.inl rfl) fun _ _ => .dnil <| .dst ⟨u25, u26⟩ trivial .nil (Ls.of (.cons .k0 (.cons .k0 (.cons .k0 (.cons .k0 (.cons .k0 (.cons .k0 .nil))))))) .nil
        · exact .dgo rfl (.n rfl) (G.bsl (cs := (api_Tx.cs a1)) .t0 runUnderlying31 sizeOf83 zeroValue83 rfl rfl rfl rfl rfl) (.inl rfl) fun u25 _ => .dgo rfl (.n rfl) (OpV.g (V.ld (v := u23) .t1 .k1 (.one isAgg31 rfl)) rfl) (.inl rfl) fun _ _ => .dgo rfl (.n rfl) (G.app (by_ := 224) .t0 .t0 .k3 (.inr (.inr ⟨_, Mm.m0⟩)) runUnderlying31 runUnderlying31 sizeOf83 typeInfo83 rfl rfl zeroValue83 rfl rfl (by simpa using hb27) rfl) (.inl rfl) fun u26 _ => .conseq .k0 (q := lst 83 25 u26 ((y19.pool ++ ([a1] : List api_Tx)).map api_Tx.cs)) (fun _ hh => by simpa [List.map_append] using hh) <| .dpu rfl (.n rfl) (P.nilc .t1) rfl rfl <| .dpu rfl (.n rfl) (P.fa .t0 fa_93_1 rfl) rfl rfl <| .onel .k0 fun ho28 => .dgo rfl (.n rfl) (G.str .t1 .t0 .k2 (.mk1 (cs' := (chain_Chain.cs ⟨y19.s, [], y19.events, y19.made⟩ u22 u26 u24)) sizeOf31 rfl ho28 rfl rfl)) (.inl rfl) fun _ _ => .dnil <| .dst ⟨u25, u26⟩ trivial .nil (Ls.of (.cons .k0 (.cons .k0 (.cons .k0 (.cons .k0 (.cons .k0 (.cons .k0 .nil))))))) .nil
      · obtain ⟨u25, u26⟩ := x_
        refine .then <| .seq <| .reg rfl <| .opp (P.asg .k) rfl <| .nil <| .then <| .ret ?_
        cases h
        exact .bxc chain_Chain.bd chain_Chain.fp (b21, u22, u26, u24) (⟨y19.s, (y19.pool ++ ([a1] : List api_Tx)), y19.events, y19.made⟩ : chain_Chain) (z := (pt b21 0)) rfl (.cons .k0 (.cons .k2 (.cons .k0 (.cons .k1 .nil)))) <| .finw () (.r1 rfl (.tmp .g0)) trivial (Ls.of (.cons .k0 .nil)) .nil
attribute [irreducible] chain_Chain_Submit_bx
noncomputable def slices_Clone_escrow_Lock (a0 : List escrow_Lock) : Option ((List escrow_Lock)) :=
  grd ((([] : List escrow_Lock).length + a0.length) * 40 ≤ 140737488355328) <| some ((([] : List escrow_Lock) ++ a0))
set_option maxRecDepth 20000 in
set_option maxHeartbeats 8000000 in
theorem S_slices_Clone_escrow_Lock (v00 : Value) (a0 : List escrow_Lock) (r : (List escrow_Lock)) (h : slices_Clone_escrow_Lock a0 = some r) :
    SpecF Tryz.prog 130 [v00] [] [rows 3 v00 (a0.map escrow_Lock.cs)] (fun z : Value => True) (fun z => z) (fun z M => lst 241 3 z (r.map escrow_Lock.cs) ::  M) (fun z M =>  M) := by
  refine .of func130 rfl ntmps130 rfl fun w0 D0 G0 => ?_
  unfold slices_Clone_escrow_Lock at h
  refine .seq <| .reg rfl <| .op0 (OpP.toV (P.asg .k)) rfl <| .nil <| .then <| .seq <| .seq <| .reg rfl <| .opp (P.mov .g0) rfl <| .opg (G.nilr (e := 241) .t0 Mm.m0 (by kernel_rfl) rfl) rfl fun n1 hz2 => .nil <| .then ?_
  refine .cond .t0 (fun c3 => ?_) (fun c3 => ?_)
  · have hx7 : a0 = [] := by simpa using hz2 c3
    replace h : some ([] : List escrow_Lock) = some r := by rw [hx7] at h; simpa [grd] using h
    refine .seq <| .reg rfl <| .opp (P.asg .k) rfl <| .nil <| .then <| .ret <| .thr ?_
    cases h
    exact .lnil 241 3 <| .finw nilSl (.r1 rfl (.tmp .g0)) trivial (Ls.of (.cons .k0 .nil)) .nil
  · refine .skip <| .then <| .seq <| .reg rfl <| .opg (G.bsl0 runUnderlying88 sizeOf241 rfl) rfl fun u4 _ => .opp (P.mov .t1) rfl ?_
    obtain ⟨hb6, h⟩ := grd_eq h
    refine .opg (G.app (by_ := 40) .t1 .t0 .k0 (.inl Mm.m0) runUnderlying88 runUnderlying88 sizeOf241 typeInfo241 rfl rfl zeroValue241 rfl (one_map one_241 _) (by simpa using hb6) rfl) rfl fun u5 _ => .conseq .k0 (q := lst 241 3 u5 ((([] : List escrow_Lock) ++ a0).map escrow_Lock.cs)) (fun _ hh => by simpa [List.map_append] using hh) <| .opp (P.asg .t0) rfl <| .nil <| .then <| .ret ?_
    cases h
    exact .finw u5 (.r1 rfl (.tmp .g0)) trivial (Ls.of (.cons .k0 .nil)) .nil
attribute [irreducible] slices_Clone_escrow_Lock
noncomputable def purse_at (a0 : Int) (a1 : Int) : Bool :=
  thn (if (decide (a0 ≥ 0)) = true then (if (decide (a0 < 8)) = true then (if (decide (a1 ≥ 0)) = true then (decide (a1 < 2)) else false) else false) else false) fun (y1 : Bool) => y1
set_option maxRecDepth 20000 in
set_option maxHeartbeats 8000000 in
theorem S_purse_at (a0 : Int) (a1 : Int) (r : Bool) (h : purse_at a0 a1 = r) :
    SpecF Tryz.prog 194 [N a0, N a1] [] [] (fun z : Unit => True) (fun z => Bo r) (fun z M =>  M) (fun z M =>  M) := by
  refine .of func194 rfl ntmps194 rfl fun w0 D0 G0 => ?_
  unfold purse_at at h
  refine .seq <| .reg rfl <| .op0 (OpP.toV (P.asg .k)) rfl <| .nil <| .then ?_
  obtain ⟨y1, hj3, h⟩ := thn_eq h
  refine .cutx (γ := Unit) (E1 := fun z2 => [(4, Bo y1)]) (L1 := fun z2 => []) (R1 := fun z2 => []) ?_ (fun z2 => ?_)
  · clear h
    refine .reg rfl <| .opp (P.mov .g0) rfl <| .opp (P.bin .t0 .k .geq) rfl <| .opp (P.mov .t0) rfl <| .split .k0 (fun c4 => ?_) (fun c4 => ?_)
    · rw [if_pos c4] at hj3
      refine .gyes rfl .g0 <| .opp (P.mov .t1) rfl <| .gyes rfl .g1 <| .opp (P.bin .t0 .k .lss) rfl <| .opp (P.pickT .t1 .t0) rfl <| .opp (P.mov .t0) rfl <| .split .k0 (fun c5 => ?_) (fun c5 => ?_)
      · rw [if_pos c5] at hj3
        refine .gyes rfl .g0 <| .opp (P.mov .g1) rfl <| .gyes rfl .g1 <| .opp (P.bin .t0 .k .geq) rfl <| .opp (P.pickT .t1 .t0) rfl <| .opp (P.mov .t0) rfl <| .split .k0 (fun c6 => ?_) (fun c6 => ?_)
        · rw [if_pos c6] at hj3
          refine .gyes rfl .g0 <| .opp (P.mov .t1) rfl <| .gyes rfl .g1 <| .opp (P.bin .t0 .k .lss) rfl <| .opp (P.pickT .t1 .t0) rfl <| .opp (P.asg .t0) rfl <| .nil ?_
          subst hj3
          exact .stj () (.cons Mm.m0 .nil) (.of .nil) .nil
        · rw [if_neg (ne_true_of_eq_false c6)] at hj3
          refine .gno rfl .g0 rfl rfl <| .gno rfl .g0 rfl rfl <| .opp (P.pickF .t0 .k) rfl <| .opp (P.asg .t0) rfl <| .nil ?_
          subst hj3
          exact .stj () (.cons Mm.m0 .nil) (.of .nil) .nil
      · rw [if_neg (ne_true_of_eq_false c5)] at hj3
        refine .gno rfl .g0 rfl rfl <| .gno rfl .g0 rfl rfl <| .opp (P.pickF .t0 .k) rfl <| .opp (P.mov .t0) rfl <| .gno rfl .g0 rfl rfl <| .gno rfl .g0 rfl rfl <| .opp (P.pickF .t0 .k) rfl <| .opp (P.asg .t0) rfl <| .nil ?_
        subst hj3
        exact .stj () (.cons Mm.m0 .nil) (.of .nil) .nil
    · rw [if_neg (ne_true_of_eq_false c4)] at hj3
      refine .gno rfl .g0 rfl rfl <| .gno rfl .g0 rfl rfl <| .opp (P.pickF .t0 .k) rfl <| .opp (P.mov .t0) rfl <| .gno rfl .g0 rfl rfl <| .gno rfl .g0 rfl rfl <| .opp (P.pickF .t0 .k) rfl <| .opp (P.mov .t0) rfl <| .gno rfl .g0 rfl rfl <| .gno rfl .g0 rfl rfl <| .opp (P.pickF .t0 .k) rfl <| .opp (P.asg .t0) rfl ?_
      refine .nil ?_
      subst hj3
      exact .stj () (.cons Mm.m0 .nil) (.of .nil) .nil
  · clear hj3
    refine .ret ?_
    subst h
    exact .finw () (.r1 rfl (.tmp .g0)) trivial (Ls.of .nil) .nil
attribute [irreducible] purse_at
noncomputable def wide_Sub (a0 : api_Wide) (a1 : api_Wide) : api_Wide × Bool :=
  if (decide ((sub64 a0.a3 a1.a3 (sub64 a0.a2 a1.a2 (sub64 a0.a1 a1.a1 (sub64 a0.a0 a1.a0 0).2).2).2).2 ≠ 0)) = true then (⟨0, 0, 0, 0⟩, false) else ((⟨(sub64 a0.a0 a1.a0 0).1, (sub64 a0.a1 a1.a1 (sub64 a0.a0 a1.a0 0).2).1, (sub64 a0.a2 a1.a2 (sub64 a0.a1 a1.a1 (sub64 a0.a0 a1.a0 0).2).2).1, (sub64 a0.a3 a1.a3 (sub64 a0.a2 a1.a2 (sub64 a0.a1 a1.a1 (sub64 a0.a0 a1.a0 0).2).2).2).1⟩, true))
set_option maxRecDepth 20000 in
set_option maxHeartbeats 8000000 in
theorem S_wide_Sub (a0 : api_Wide) (a1 : api_Wide) (r : api_Wide × Bool) (h : wide_Sub a0 a1 = r) :
    SpecF Tryz.prog 174 [Ag (api_Wide.cs a0), Ag (api_Wide.cs a1)] [] [] (fun z : Unit => True) (fun z => Tu [Ag (api_Wide.cs r.1), Bo r.2]) (fun z M =>  M) (fun z M =>  M) := by
  refine .of func174 rfl ntmps174 rfl fun w0 D0 G0 => ?_
  unfold wide_Sub at h
  refine .seq <| .reg rfl <| .opx (X.box (cs := (api_Wide.cs a0)) .t0 rfl) rfl fun b1 => .opx (X.box (cs := (api_Wide.cs a1)) .t1 rfl) rfl fun b2 => .opx (X.alc (cs := (api_Wide.cs ⟨0, 0, 0, 0⟩)) zeroValue77 rfl) rfl fun b3 => .op0 (OpP.toV (P.asg .k)) rfl <| .nil <| .then <| .seq <| .reg rfl <| .opx (X.alc (cs := (api_Wide.cs ⟨0, 0, 0, 0⟩)) zeroValue77 rfl) rfl fun b4 => .nil ?_
  refine .then <| .seq <| .reg rfl <| .opp (P.asg .k) rfl <| .nil <| .then <| .seq <| .seq <| .reg rfl <| .opp (P.mov .k) rfl <| .nil <| .then ?_
  refine .block <| .rounds 5 <| .rd <| .seq <| .reg rfl <| .opp (P.bin (v := Bo true) .g0 .k (BinV.lss.boolc (by decide))) rfl <| .nil <| .then <| .seq <| .condT .t0 <| .skip <| .then ?_
  refine .seq <| .block <| .seq <| .reg rfl <| .opp (P.mov .g0) rfl <| .opp (P.asg .t0) rfl <| .nil <| .then <| .drawl [blk b3 77 (api_Wide.cs ⟨0, 0, 0, 0⟩), blk b2 77 (api_Wide.cs a1), blk b1 77 (api_Wide.cs a0)] [] (Ls.of (.cons .k1 (.cons .k1 (.cons .k1 .nil)))) Rs.nil 15 (.on 0 .pu (.on 1 .pu (.on 2 .pu (.on 4 .pu (.on 5 .pu (.on 7 .pu (.on 3 .ld (.on 6 .ld (.on 8 .pu (.on 9 .pu (.on 10 .pu (.on 11 .pu (.on 12 .pu (.on 13 .go (.on 14 .go .nl))))))))))))))) follows_mixed (.inb (.thn (.thn (.inb (.thn .body))))) (by kernel_rfl) <| .dpu rfl (.n rfl) (P.mov .g0) rfl rfl <| .dpu rfl (.n rfl) (P.mov .g1) rfl rfl <| .dpu rfl (.n rfl) (P.iac (i := 0) .t0 rfl .g7 runUnderlying77 sizeOf75 rfl rfl) rfl rfl ?_
  refine .dpu rfl (.n rfl) (P.mov .t2) rfl rfl <| .dpu rfl (.n rfl) (P.iac (i := 0) .t0 rfl .g6 runUnderlying77 sizeOf75 rfl rfl) rfl rfl <| .dpu rfl (.n rfl) (P.mov .g4) rfl rfl <| .dld rfl (.n rfl) (V.ld (v := U a0.a0) .t2 .k2 (.one isAgg75 rfl)) (fun _ h => (h.imp (Ls.of (.cons .k1 (.cons .k1 (.cons .k1 .nil))))).ro Rs.nil) rfl rfl <| .dld rfl (.n rfl) (V.ld (v := U a1.a0) .t2 .k1 (.one isAgg75 rfl)) (fun _ h => (h.imp (Ls.of (.cons .k1 (.cons .k1 (.cons .k1 .nil))))).ro Rs.nil) rfl rfl <| .dpu rfl (.n rfl) (P.extn (.cons .t1 (.cons .t0 (.cons .t0 .nil))) func247 rfl rfl fn_247 find_247 (run_sub64u _ _ 0 zero_le1)) rfl rfl <| .dpu rfl (.n rfl) (P.mov .t0) rfl rfl <| .dpu rfl (.n rfl) (P.ext (v := U (sub64 a0.a0 a1.a0 0).1) .g0 rfl) rfl rfl <| .dpu rfl (.n rfl) (P.ext (v := U (sub64 a0.a0 a1.a0 0).2) .t1 rfl) rfl rfl <| .dpu rfl (.n rfl) (P.iac (i := 0) .t2 rfl .g4 runUnderlying77 sizeOf75 rfl rfl) rfl rfl <| .dgo rfl (.n rfl) (G.str .t2 .t0 .k0 (.mk (cs' := (api_Wide.cs ⟨(sub64 a0.a0 a1.a0 0).1, 0, 0, 0⟩)) sizeOf75 rfl rfl rfl rfl)) (.inr fun _ _ _ h => (h.imp (Ls.of (.cons .k1 (.cons .k1 (.cons .k1 .nil))))).ro Rs.nil) fun _ _ => .drop .k2 ?_
  refine .dgo rfl (.n rfl) (OpV.g (OpP.toV (P.asg .t0)) rfl) (.inr fun _ _ _ h => (h.imp (Ls.of (.cons .k1 (.cons .k1 (.cons .k1 .nil))))).ro Rs.nil) fun _ _ => .dnil <| .inn <| .then <| .reg rfl <| .opp (P.bin (v := N 1) .g1 .k (.addc (by decide))) rfl <| .drop .k2 <| .opp (P.mov .t0) rfl <| .nil <| .then <| .rd <| .seq ?_
  refine .reg rfl <| .opp (P.bin (v := Bo true) .g0 .k (BinV.lss.boolc (by decide))) rfl <| .nil <| .then <| .seq <| .condT .t0 <| .skip <| .then <| .seq <| .block <| .seq <| .reg rfl ?_
  refine .opp (P.mov .g0) rfl <| .opp (P.asg .t0) rfl <| .nil <| .then <| .drawl [blk b3 77 (api_Wide.cs ⟨0, 0, 0, 0⟩), blk b2 77 (api_Wide.cs a1), blk b1 77 (api_Wide.cs a0)] [] (Ls.of (.cons .k1 (.cons .k1 (.cons .k1 .nil)))) Rs.nil 15 (.on 0 .pu (.on 1 .pu (.on 2 .pu (.on 4 .pu (.on 5 .pu (.on 7 .pu (.on 3 .ld (.on 6 .ld (.on 8 .pu (.on 9 .pu (.on 10 .pu (.on 11 .pu (.on 12 .pu (.on 13 .go (.on 14 .go .nl))))))))))))))) follows_mixed (.inb (.thn (.thn (.inb (.thn .body))))) (by kernel_rfl) <| .dpu rfl (.n rfl) (P.mov .g0) rfl rfl <| .dpu rfl (.n rfl) (P.mov .g1) rfl rfl <| .dpu rfl (.n rfl) (P.iac (i := 1) .t0 rfl .g7 runUnderlying77 sizeOf75 rfl rfl) rfl rfl <| .dpu rfl (.n rfl) (P.mov .t2) rfl rfl <| .dpu rfl (.n rfl) (P.iac (i := 1) .t0 rfl .g6 runUnderlying77 sizeOf75 rfl rfl) rfl rfl <| .dpu rfl (.n rfl) (P.mov .g4) rfl rfl <| .dld rfl (.n rfl) (V.ld (v := U a0.a1) .t2 .k2 (.one isAgg75 rfl)) (fun _ h => (h.imp (Ls.of (.cons .k1 (.cons .k1 (.cons .k1 .nil))))).ro Rs.nil) rfl rfl ?_
  refine .dld rfl (.n rfl) (V.ld (v := U a1.a1) .t2 .k1 (.one isAgg75 rfl)) (fun _ h => (h.imp (Ls.of (.cons .k1 (.cons .k1 (.cons .k1 .nil))))).ro Rs.nil) rfl rfl <| .dpu rfl (.n rfl) (P.extn (.cons .t1 (.cons .t0 (.cons .t0 .nil))) func247 rfl rfl fn_247 find_247 (run_sub64u _ _ _ sub64_le)) rfl rfl <| .dpu rfl (.n rfl) (P.mov .t0) rfl rfl <| .dpu rfl (.n rfl) (P.ext (v := U (sub64 a0.a1 a1.a1 (sub64 a0.a0 a1.a0 0).2).1) .g0 rfl) rfl rfl <| .dpu rfl (.n rfl) (P.ext (v := U (sub64 a0.a1 a1.a1 (sub64 a0.a0 a1.a0 0).2).2) .t1 rfl) rfl rfl <| .dpu rfl (.n rfl) (P.iac (i := 1) .t2 rfl .g4 runUnderlying77 sizeOf75 rfl rfl) rfl rfl <| .dgo rfl (.n rfl) (G.str .t2 .t0 .k0 (.mk (cs' := (api_Wide.cs ⟨(sub64 a0.a0 a1.a0 0).1, (sub64 a0.a1 a1.a1 (sub64 a0.a0 a1.a0 0).2).1, 0, 0⟩)) sizeOf75 rfl rfl rfl rfl)) (.inr fun _ _ _ h => (h.imp (Ls.of (.cons .k1 (.cons .k1 (.cons .k1 .nil))))).ro Rs.nil) fun _ _ => .drop .k2 <| .dgo rfl (.n rfl) (OpV.g (OpP.toV (P.asg .t0)) rfl) (.inr fun _ _ _ h => (h.imp (Ls.of (.cons .k1 (.cons .k1 (.cons .k1 .nil))))).ro Rs.nil) fun _ _ => .dnil <| .inn <| .then ?_
  refine .reg rfl <| .opp (P.bin (v := N 2) .g1 .k (.addc (by decide))) rfl <| .drop .k2 <| .opp (P.mov .t0) rfl <| .nil <| .then <| .rd <| .seq <| .reg rfl <| .opp (P.bin (v := Bo true) .g0 .k (BinV.lss.boolc (by decide))) rfl <| .nil <| .then ?_
  refine .seq <| .condT .t0 <| .skip <| .then <| .seq <| .block <| .seq <| .reg rfl <| .opp (P.mov .g0) rfl <| .opp (P.asg .t0) rfl <| .nil <| .then ?_
  refine .drawl [blk b3 77 (api_Wide.cs ⟨0, 0, 0, 0⟩), blk b2 77 (api_Wide.cs a1), blk b1 77 (api_Wide.cs a0)] [] (Ls.of (.cons .k1 (.cons .k1 (.cons .k1 .nil)))) Rs.nil 15 (.on 0 .pu (.on 1 .pu (.on 2 .pu (.on 4 .pu (.on 5 .pu (.on 7 .pu (.on 3 .ld (.on 6 .ld (.on 8 .pu (.on 9 .pu (.on 10 .pu (.on 11 .pu (.on 12 .pu (.on 13 .go (.on 14 .go .nl))))))))))))))) follows_mixed (.inb (.thn (.thn (.inb (.thn .body))))) (by kernel_rfl) <| .dpu rfl (.n rfl) (P.mov .g0) rfl rfl <| .dpu rfl (.n rfl) (P.mov .g1) rfl rfl <| .dpu rfl (.n rfl) (P.iac (i := 2) .t0 rfl .g7 runUnderlying77 sizeOf75 rfl rfl) rfl rfl <| .dpu rfl (.n rfl) (P.mov .t2) rfl rfl <| .dpu rfl (.n rfl) (P.iac (i := 2) .t0 rfl .g6 runUnderlying77 sizeOf75 rfl rfl) rfl rfl <| .dpu rfl (.n rfl) (P.mov .g4) rfl rfl <| .dld rfl (.n rfl) (V.ld (v := U a0.a2) .t2 .k2 (.one isAgg75 rfl)) (fun _ h => (h.imp (Ls.of (.cons .k1 (.cons .k1 (.cons .k1 .nil))))).ro Rs.nil) rfl rfl <| .dld rfl (.n rfl) (V.ld (v := U a1.a2) .t2 .k1 (.one isAgg75 rfl)) (fun _ h => (h.imp (Ls.of (.cons .k1 (.cons .k1 (.cons .k1 .nil))))).ro Rs.nil) rfl rfl <| .dpu rfl (.n rfl) (P.extn (.cons .t1 (.cons .t0 (.cons .t0 .nil))) func247 rfl rfl fn_247 find_247 (run_sub64u _ _ _ sub64_le)) rfl rfl <| .dpu rfl (.n rfl) (P.mov .t0) rfl rfl <| .dpu rfl (.n rfl) (P.ext (v := U (sub64 a0.a2 a1.a2 (sub64 a0.a1 a1.a1 (sub64 a0.a0 a1.a0 0).2).2).1) .g0 rfl) rfl rfl ?_
  refine .dpu rfl (.n rfl) (P.ext (v := U (sub64 a0.a2 a1.a2 (sub64 a0.a1 a1.a1 (sub64 a0.a0 a1.a0 0).2).2).2) .t1 rfl) rfl rfl <| .dpu rfl (.n rfl) (P.iac (i := 2) .t2 rfl .g4 runUnderlying77 sizeOf75 rfl rfl) rfl rfl <| .dgo rfl (.n rfl) (G.str .t2 .t0 .k0 (.mk (cs' := (api_Wide.cs ⟨(sub64 a0.a0 a1.a0 0).1, (sub64 a0.a1 a1.a1 (sub64 a0.a0 a1.a0 0).2).1, (sub64 a0.a2 a1.a2 (sub64 a0.a1 a1.a1 (sub64 a0.a0 a1.a0 0).2).2).1, 0⟩)) sizeOf75 rfl rfl rfl rfl)) (.inr fun _ _ _ h => (h.imp (Ls.of (.cons .k1 (.cons .k1 (.cons .k1 .nil))))).ro Rs.nil) fun _ _ => .drop .k2 <| .dgo rfl (.n rfl) (OpV.g (OpP.toV (P.asg .t0)) rfl) (.inr fun _ _ _ h => (h.imp (Ls.of (.cons .k1 (.cons .k1 (.cons .k1 .nil))))).ro Rs.nil) fun _ _ => .dnil <| .inn <| .then <| .reg rfl <| .opp (P.bin (v := N 3) .g1 .k (.addc (by decide))) rfl <| .drop .k2 <| .opp (P.mov .t0) rfl ?_
  refine .nil <| .then <| .rd <| .seq <| .reg rfl <| .opp (P.bin (v := Bo true) .g0 .k (BinV.lss.boolc (by decide))) rfl <| .nil <| .then <| .seq <| .condT .t0 <| .skip <| .then ?_
  refine .seq <| .block <| .seq <| .reg rfl <| .opp (P.mov .g0) rfl <| .opp (P.asg .t0) rfl <| .nil <| .then <| .drawl [blk b3 77 (api_Wide.cs ⟨0, 0, 0, 0⟩), blk b2 77 (api_Wide.cs a1), blk b1 77 (api_Wide.cs a0)] [] (Ls.of (.cons .k1 (.cons .k1 (.cons .k1 .nil)))) Rs.nil 15 (.on 0 .pu (.on 1 .pu (.on 2 .pu (.on 4 .pu (.on 5 .pu (.on 7 .pu (.on 3 .ld (.on 6 .ld (.on 8 .pu (.on 9 .pu (.on 10 .pu (.on 11 .pu (.on 12 .pu (.on 13 .go (.on 14 .go .nl))))))))))))))) follows_mixed (.inb (.thn (.thn (.inb (.thn .body))))) (by kernel_rfl) <| .dpu rfl (.n rfl) (P.mov .g0) rfl rfl <| .dpu rfl (.n rfl) (P.mov .g1) rfl rfl <| .dpu rfl (.n rfl) (P.iac (i := 3) .t0 rfl .g7 runUnderlying77 sizeOf75 rfl rfl) rfl rfl ?_
  refine .dpu rfl (.n rfl) (P.mov .t2) rfl rfl <| .dpu rfl (.n rfl) (P.iac (i := 3) .t0 rfl .g6 runUnderlying77 sizeOf75 rfl rfl) rfl rfl <| .dpu rfl (.n rfl) (P.mov .g4) rfl rfl <| .dld rfl (.n rfl) (V.ld (v := U a0.a3) .t2 .k2 (.one isAgg75 rfl)) (fun _ h => (h.imp (Ls.of (.cons .k1 (.cons .k1 (.cons .k1 .nil))))).ro Rs.nil) rfl rfl <| .dld rfl (.n rfl) (V.ld (v := U a1.a3) .t2 .k1 (.one isAgg75 rfl)) (fun _ h => (h.imp (Ls.of (.cons .k1 (.cons .k1 (.cons .k1 .nil))))).ro Rs.nil) rfl rfl <| .dpu rfl (.n rfl) (P.extn (.cons .t1 (.cons .t0 (.cons .t0 .nil))) func247 rfl rfl fn_247 find_247 (run_sub64u _ _ _ sub64_le)) rfl rfl <| .dpu rfl (.n rfl) (P.mov .t0) rfl rfl <| .dpu rfl (.n rfl) (P.ext (v := U (sub64 a0.a3 a1.a3 (sub64 a0.a2 a1.a2 (sub64 a0.a1 a1.a1 (sub64 a0.a0 a1.a0 0).2).2).2).1) .g0 rfl) rfl rfl <| .dpu rfl (.n rfl) (P.ext (v := U (sub64 a0.a3 a1.a3 (sub64 a0.a2 a1.a2 (sub64 a0.a1 a1.a1 (sub64 a0.a0 a1.a0 0).2).2).2).2) .t1 rfl) rfl rfl <| .dpu rfl (.n rfl) (P.iac (i := 3) .t2 rfl .g4 runUnderlying77 sizeOf75 rfl rfl) rfl rfl <| .dgo rfl (.n rfl) (G.str .t2 .t0 .k0 (.mk (cs' := (api_Wide.cs ⟨(sub64 a0.a0 a1.a0 0).1, (sub64 a0.a1 a1.a1 (sub64 a0.a0 a1.a0 0).2).1, (sub64 a0.a2 a1.a2 (sub64 a0.a1 a1.a1 (sub64 a0.a0 a1.a0 0).2).2).1, (sub64 a0.a3 a1.a3 (sub64 a0.a2 a1.a2 (sub64 a0.a1 a1.a1 (sub64 a0.a0 a1.a0 0).2).2).2).1⟩)) sizeOf75 rfl rfl rfl rfl)) (.inr fun _ _ _ h => (h.imp (Ls.of (.cons .k1 (.cons .k1 (.cons .k1 .nil))))).ro Rs.nil) fun _ _ => .drop .k2 ?_
  refine .dgo rfl (.n rfl) (OpV.g (OpP.toV (P.asg .t0)) rfl) (.inr fun _ _ _ h => (h.imp (Ls.of (.cons .k1 (.cons .k1 (.cons .k1 .nil))))).ro Rs.nil) fun _ _ => .dnil <| .inn <| .then <| .reg rfl <| .opp (P.bin (v := N 4) .g1 .k (.addc (by decide))) rfl <| .drop .k2 <| .opp (P.mov .t0) rfl <| .nil <| .then <| .rd <| .seq ?_
  refine .reg rfl <| .opp (P.bin (v := Bo false) .g0 .k (BinV.lss.boolc (by decide))) rfl <| .nil <| .then <| .seq <| .condF .t0 <| .exit <| .thx <| .thx <| .inb <| .then <| .seq ?_
  refine .seq <| .reg rfl <| .opp (P.mov .t1) rfl <| .opp (P.bin .t0 .k (BinV.neqU (x := (sub64 a0.a3 a1.a3 (sub64 a0.a2 a1.a2 (sub64 a0.a1 a1.a1 (sub64 a0.a0 a1.a0 0).2).2).2).2) (y := 0))) rfl <| .nil <| .then <| .cond .t0 (fun c5 => ?_) (fun c5 => ?_)
  · rw [if_pos c5] at h
    refine .seq <| .reg rfl <| .opp (P.bld (v := Ag (api_Wide.cs ⟨0, 0, 0, 0⟩)) .nil (bld_runA zeroValue77 runUnderlying77 sizeOf75 (by kernel_rfl))) rfl <| .opg (G.str .t0 .g2 .k1 (.mk (cs' := (api_Wide.cs ⟨0, 0, 0, 0⟩)) sizeOf77 rfl rfl rfl rfl)) rfl fun _ _ => .opp (P.asg .k) rfl <| .nil <| .then <| .ret <| .thr ?_
    subst h
    exact .finw () (.r2 rfl (.cell .g3 .k0 (.agg isAgg77 sizeOf77 rfl rfl)) (.tmp .g0)) trivial (Ls.of .nil) .nil
  · rw [if_neg (ne_true_of_eq_false c5)] at h
    refine .skip <| .then <| .seq <| .reg rfl <| .op (V.ld (v := Ag (api_Wide.cs ⟨(sub64 a0.a0 a1.a0 0).1, (sub64 a0.a1 a1.a1 (sub64 a0.a0 a1.a0 0).2).1, (sub64 a0.a2 a1.a2 (sub64 a0.a1 a1.a1 (sub64 a0.a0 a1.a0 0).2).2).1, (sub64 a0.a3 a1.a3 (sub64 a0.a2 a1.a2 (sub64 a0.a1 a1.a1 (sub64 a0.a0 a1.a0 0).2).2).2).1⟩)) .t1 .k0 (.agg isAgg77 sizeOf77 rfl rfl)) rfl <| .opg (G.str .t0 .g1 .k1 (.mk (cs' := (api_Wide.cs ⟨(sub64 a0.a0 a1.a0 0).1, (sub64 a0.a1 a1.a1 (sub64 a0.a0 a1.a0 0).2).1, (sub64 a0.a2 a1.a2 (sub64 a0.a1 a1.a1 (sub64 a0.a0 a1.a0 0).2).2).1, (sub64 a0.a3 a1.a3 (sub64 a0.a2 a1.a2 (sub64 a0.a1 a1.a1 (sub64 a0.a0 a1.a0 0).2).2).2).1⟩)) sizeOf77 rfl rfl rfl rfl)) rfl fun _ _ => .opp (P.asg .k) rfl <| .nil <| .then <| .ret ?_
    subst h
    exact .finw () (.r2 rfl (.cell .g2 .k0 (.agg isAgg77 sizeOf77 rfl rfl)) (.tmp .g0)) trivial (Ls.of .nil) .nil
attribute [irreducible] wide_Sub
noncomputable def purse_Book_Take (a0 : purse_Book) (a1 : Int) (a2 : Int) (a3 : api_Wide) : Option (purse_Book × Int) :=
  if (!(purse_at a1 a2)) = true then (some (a0, 4)) else (Option.bind (at_ (purse_Book.list a0) a1) fun (x5 : A2_api_Wide) => Option.bind (at_ (A2_api_Wide.list x5) a2) fun (x9 : api_Wide) => if (!(wide_Sub x9 a3).2) = true then (some (a0, 30)) else (Option.bind (at_ (purse_Book.list a0) a1) fun (x15 : A2_api_Wide) => Option.bind (at_ (A2_api_Wide.list x15) a2) fun (x19 : api_Wide) => some ((purse_Book.set a0 (a1).toNat (A2_api_Wide.set x15 (a2).toNat (wide_Sub x9 a3).1), 0))))
set_option maxRecDepth 20000 in
set_option maxHeartbeats 8000000 in
theorem S_purse_Book_Take (a0 : purse_Book) (a1 : Int) (a2 : Int) (a3 : api_Wide) (r : purse_Book × Int) (h : purse_Book_Take a0 a1 a2 a3 = some r) :
    SpecF Tryz.prog 131 [Ag (purse_Book.cs a0), N a1, N a2, Ag (api_Wide.cs a3)] [] [] (fun z : Unit => True) (fun z => Tu [Ag (purse_Book.cs r.1), N r.2]) (fun z M =>  M) (fun z M =>  M) := by
  refine .of func131 rfl ntmps131 rfl fun w0 D0 G0 => ?_
  unfold purse_Book_Take at h
  refine .seq <| .reg rfl <| .opx (X.box (cs := (purse_Book.cs a0)) .t0 rfl) rfl fun b1 => .opx (X.box (cs := (api_Wide.cs a3)) .t3 rfl) rfl fun b2 => .opx (X.alc (cs := (purse_Book.cs ⟨⟨⟨0, 0, 0, 0⟩, ⟨0, 0, 0, 0⟩⟩, ⟨⟨0, 0, 0, 0⟩, ⟨0, 0, 0, 0⟩⟩, ⟨⟨0, 0, 0, 0⟩, ⟨0, 0, 0, 0⟩⟩, ⟨⟨0, 0, 0, 0⟩, ⟨0, 0, 0, 0⟩⟩, ⟨⟨0, 0, 0, 0⟩, ⟨0, 0, 0, 0⟩⟩, ⟨⟨0, 0, 0, 0⟩, ⟨0, 0, 0, 0⟩⟩, ⟨⟨0, 0, 0, 0⟩, ⟨0, 0, 0, 0⟩⟩, ⟨⟨0, 0, 0, 0⟩, ⟨0, 0, 0, 0⟩⟩⟩)) zeroValue86 rfl) rfl fun b3 => .op0 (OpP.toV (P.asg .k)) rfl <| .nil <| .then <| .seq <| .seq <| .reg rfl <| .opp (P.mov .g3) rfl ?_
  refine .opp (P.mov .g5) rfl <| .opg (G.call call194 (.cons .t1 (.cons .t0 .nil)) (S_purse_at a1 a2 _ rfl) .nil .nil (fun _ _ => rfl) (fun _ _ => rfl) rfl) rfl fun _ _ => .opp (P.not .t0) rfl <| .nil <| .then <| .cond .t0 (fun c4 => ?_) (fun c4 => ?_)
  · rw [if_pos c4] at h
    refine .seq <| .reg rfl <| .op (V.ld (v := Ag (purse_Book.cs a0)) .t2 .k2 (.agg isAgg86 sizeOf86 rfl rfl)) rfl <| .opg (G.str .t0 .g0 .k0 (.mk (cs' := (purse_Book.cs a0)) sizeOf86 rfl rfl rfl rfl)) rfl fun _ _ => .opp (P.asg .k) rfl <| .nil <| .then <| .ret <| .thr ?_
    cases h
    exact .finw () (.r2 rfl (.cell .g1 .k0 (.agg isAgg86 sizeOf86 rfl rfl)) (.tmp .g0)) trivial (Ls.of .nil) .nil
  · rw [if_neg (ne_true_of_eq_false c4)] at h
    refine .skip <| .then <| .seq ?_
    obtain ⟨x5, hx6, h⟩ := bnd_eq h
    obtain ⟨i7, hi8, hx6⟩ := at_eq hx6
    have hi8_ : (a1).toNat = i7 := by rw [hi8]; rfl
    obtain ⟨x9, hx10, h⟩ := bnd_eq h
    obtain ⟨i11, hi12, hx10⟩ := at_eq hx10
    have hi12_ : (a2).toNat = i11 := by rw [hi12]; rfl
    refine .dcut (γ := Nat) (φ := fun _ => True) (E1 := fun x_ => [(11, Bo (wide_Sub x9 a3).2), (10, pt x_ 0), (8, pt b3 0), (4, pt b1 0), (1, N a1), (2, N a2)]) (L1 := fun x_ => [blk x_ 77 (api_Wide.cs (wide_Sub x9 a3).1), blk b3 86 (purse_Book.cs ⟨⟨⟨0, 0, 0, 0⟩, ⟨0, 0, 0, 0⟩⟩, ⟨⟨0, 0, 0, 0⟩, ⟨0, 0, 0, 0⟩⟩, ⟨⟨0, 0, 0, 0⟩, ⟨0, 0, 0, 0⟩⟩, ⟨⟨0, 0, 0, 0⟩, ⟨0, 0, 0, 0⟩⟩, ⟨⟨0, 0, 0, 0⟩, ⟨0, 0, 0, 0⟩⟩, ⟨⟨0, 0, 0, 0⟩, ⟨0, 0, 0, 0⟩⟩, ⟨⟨0, 0, 0, 0⟩, ⟨0, 0, 0, 0⟩⟩, ⟨⟨0, 0, 0, 0⟩, ⟨0, 0, 0, 0⟩⟩⟩), blk b2 77 (api_Wide.cs a3), blk b1 86 (purse_Book.cs a0)]) (R1 := fun x_ => []) ?_ (fun b13 _ => ?_)
    · refine .draw 13 (.on 0 .pu (.on 1 .pu (.on 2 .pu (.on 3 .pu (.on 4 .ld (.on 5 .ld (.fk 6 10 (.on 7 .pu (.on 8 .pu (.on 9 .pu (.on 10 .go (.on 11 .go (.on 12 .go .nl)))))) (.on 6 .go (.on 7 .pu (.on 8 .pu (.on 9 .pu (.on 11 .go (.on 12 .go .nl))))))))))))) follows_mixed (.thn (.thn .body)) (by kernel_rfl) <| .dpu rfl (.n rfl) (P.mov .g3) rfl rfl <| .dpu rfl (.n rfl) (P.mov .g5) rfl rfl <| .dpu rfl (.n rfl) (P.iad (i := i7) (off' := (0 + i7 * 8)) .t1 hi8 .g3 runUnderlying86 sizeOf84 (lt_of_get hx6) rfl) rfl rfl <| .dpu rfl (.n rfl) (P.iad (i := i11) (off' := ((0 + i7 * 8) + i11 * 4)) .t1 hi12 .t0 runUnderlying84 sizeOf77 (lt_of_get hx10) rfl) rfl rfl <| .dld rfl (.n rfl) (V.ld (v := Ag (api_Wide.cs x9)) .t0 .k2 (by rcases i7 with _ | _ | _ | _ | _ | _ | _ | _ | _ <;> first | (obtain rfl := Option.some.inj hx6; rcases i11 with _ | _ | _ <;> first | (obtain rfl := Option.some.inj hx10; exact LdV.agg isAgg77 sizeOf77 rfl rfl) | (cases hx10; done)) | (cases hx6; done))) (fun _ h => h) rfl rfl <| .dld rfl (.n rfl) (V.ld (v := Ag (api_Wide.cs a3)) .t2 .k1 (.agg isAgg77 sizeOf77 rfl rfl)) (fun _ h => h) rfl rfl <| .dfk ?_ ?_
      · exact .dgo rfl (.n rfl) (G.call call174 (.cons .t1 (.cons .t0 .nil)) (S_wide_Sub x9 a3 _ rfl) .nil .nil (fun _ _ => rfl) (fun _ _ => rfl) rfl) (.inr fun _ _ _ h => h) fun _ _ => .dpu rfl (.n rfl) (P.mov .t0) rfl rfl <| .dpu rfl (.n rfl) (P.ext (v := Ag (api_Wide.cs (wide_Sub x9 a3).1)) .g0 rfl) rfl rfl <| .dpu rfl (.n rfl) (P.ext (v := Bo (wide_Sub x9 a3).2) .t1 rfl) rfl rfl <| .dgo rfl (.n rfl) (OpX.g (X.alc (cs := (api_Wide.cs ⟨0, 0, 0, 0⟩)) zeroValue77 rfl) rfl) (.inr fun _ _ _ h => (h.imp (Ls.of (.cons .k1 (.cons .k1 (.cons .k1 .nil))))).ro Rs.nil) fun b13 _ => .dgo rfl (.n rfl) (G.str .t2 .g0 .k0 (.mk (cs' := (api_Wide.cs (wide_Sub x9 a3).1)) sizeOf77 rfl rfl rfl rfl)) (.inr fun _ _ _ h => (h.imp (Ls.of (.cons .k1 (.cons .k1 (.cons .k1 .nil))))).ro Rs.nil) fun _ _ => .dgo rfl (.n rfl) (OpV.g (OpP.toV (P.asg .t1)) rfl) (.inr fun _ _ _ h => (h.imp (Ls.of (.cons .k1 (.cons .k1 (.cons .k1 .nil))))).ro Rs.nil) fun _ _ => .dnil <| .dst b13 trivial (.cons Mm.m0 (.cons Mm.m1 (.cons Mm.m2 (.cons Mm.m3 (.cons Mm.m4 (.cons Mm.m5 .nil)))))) (Ls.of (.cons .k0 (.cons .k0 (.cons .k0 (.cons .k0 .nil))))) .nil
      · exact .dgo rfl (.n rfl) (OpX.g (X.alc (cs := (api_Wide.cs ⟨0, 0, 0, 0⟩)) zeroValue77 rfl) rfl) (.inr fun _ _ _ h => (h.imp (Ls.of (.cons .k1 (.cons .k1 (.cons .k1 .nil))))).ro Rs.nil) fun b13 _ => .dgo rfl (.n rfl) (G.call call174 (.cons .t2 (.cons .t1 .nil)) (S_wide_Sub x9 a3 _ rfl) .nil .nil (fun _ _ => rfl) (fun _ _ => rfl) rfl) (.inr fun _ _ _ h => (h.imp (Ls.of (.cons .k1 (.cons .k1 (.cons .k1 .nil))))).ro Rs.nil) fun _ _ => .dpu rfl (.n rfl) (P.mov .t0) rfl rfl <| .dpu rfl (.n rfl) (P.ext (v := Ag (api_Wide.cs (wide_Sub x9 a3).1)) .g0 rfl) rfl rfl <| .dpu rfl (.n rfl) (P.ext (v := Bo (wide_Sub x9 a3).2) .t1 rfl) rfl rfl <| .dgo rfl (.n rfl) (G.str .t1 .g1 .k0 (.mk (cs' := (api_Wide.cs (wide_Sub x9 a3).1)) sizeOf77 rfl rfl rfl rfl)) (.inr fun _ _ _ h => (h.imp (Ls.of (.cons .k1 (.cons .k1 (.cons .k1 .nil))))).ro Rs.nil) fun _ _ => .dgo rfl (.n rfl) (OpV.g (OpP.toV (P.asg .t0)) rfl) (.inr fun _ _ _ h => (h.imp (Ls.of (.cons .k1 (.cons .k1 (.cons .k1 .nil))))).ro Rs.nil) fun _ _ => .dnil <| .dst b13 trivial (.cons Mm.m0 (.cons Mm.m1 (.cons Mm.m2 (.cons Mm.m3 (.cons Mm.m4 (.cons Mm.m5 .nil)))))) (Ls.of (.cons .k0 (.cons .k0 (.cons .k0 (.cons .k0 .nil))))) .nil
    · refine .then <| .seq <| .seq <| .reg rfl <| .opp (P.mov .t0) rfl <| .opp (P.not .t0) rfl <| .nil <| .then <| .cond .t0 (fun c14 => ?_) (fun c14 => ?_)
      · rw [if_pos c14] at h
        refine .seq <| .reg rfl <| .op (V.ld (v := Ag (purse_Book.cs a0)) .t2 .k3 (.agg isAgg86 sizeOf86 rfl rfl)) rfl <| .opg (G.str .t0 .g1 .k1 (.mk (cs' := (purse_Book.cs a0)) sizeOf86 rfl rfl rfl rfl)) rfl fun _ _ => .opp (P.asg .k) rfl <| .nil <| .then <| .ret <| .thr ?_
        cases h
        exact .finw () (.r2 rfl (.cell .g2 .k0 (.agg isAgg86 sizeOf86 rfl rfl)) (.tmp .g0)) trivial (Ls.of .nil) .nil
      · rw [if_neg (ne_true_of_eq_false c14)] at h
        refine .skip <| .then <| .seq <| .drawl [blk b13 77 (api_Wide.cs (wide_Sub x9 a3).1), blk b3 86 (purse_Book.cs ⟨⟨⟨0, 0, 0, 0⟩, ⟨0, 0, 0, 0⟩⟩, ⟨⟨0, 0, 0, 0⟩, ⟨0, 0, 0, 0⟩⟩, ⟨⟨0, 0, 0, 0⟩, ⟨0, 0, 0, 0⟩⟩, ⟨⟨0, 0, 0, 0⟩, ⟨0, 0, 0, 0⟩⟩, ⟨⟨0, 0, 0, 0⟩, ⟨0, 0, 0, 0⟩⟩, ⟨⟨0, 0, 0, 0⟩, ⟨0, 0, 0, 0⟩⟩, ⟨⟨0, 0, 0, 0⟩, ⟨0, 0, 0, 0⟩⟩, ⟨⟨0, 0, 0, 0⟩, ⟨0, 0, 0, 0⟩⟩⟩), blk b2 77 (api_Wide.cs a3)] [] (Ls.of (.cons .k0 (.cons .k0 (.cons .k0 .nil)))) Rs.nil 6 (.on 0 .pu (.on 1 .pu (.on 3 .pu (.on 2 .ld (.on 4 .pu (.on 5 .go .nl)))))) follows_mixed (.thn .body) (by kernel_rfl) <| .dpu rfl (.n rfl) (P.mov .t3) rfl rfl <| .dpu rfl (.n rfl) (P.mov .t4) rfl rfl ?_
        obtain ⟨x15, hx16, h⟩ := bnd_eq h
        obtain ⟨i17, hi18, hx16⟩ := at_eq hx16
        have hi18_ : (a1).toNat = i17 := by rw [hi18]; rfl
        refine .dpu rfl (.n rfl) (P.iad (i := i17) (off' := (0 + i17 * 8)) .t1 hi18 .g3 runUnderlying86 sizeOf84 (lt_of_get hx16) rfl) rfl rfl <| .dld rfl (.n rfl) (V.ld (v := Ag (api_Wide.cs (wide_Sub x9 a3).1)) .t2 .k0 (.agg isAgg77 sizeOf77 rfl rfl)) (fun _ h => (h.imp (Ls.of (.cons .k0 (.cons .k0 (.cons .k0 .nil))))).ro Rs.nil) rfl rfl ?_
        obtain ⟨x19, hx20, h⟩ := bnd_eq h
        obtain ⟨i21, hi22, hx20⟩ := at_eq hx20
        have hi22_ : (a2).toNat = i21 := by rw [hi22]; rfl
        refine .dpu rfl (.n rfl) (P.iad (i := i21) (off' := ((0 + i17 * 8) + i21 * 4)) .t2 hi22 .t1 runUnderlying84 sizeOf77 (lt_of_get hx20) rfl) rfl rfl <| .dgo rfl (.n rfl) (G.str (cs' := (purse_Book.cs (purse_Book.set a0 i17 (A2_api_Wide.set x15 i21 (wide_Sub x9 a3).1)))) .t1 .t0 .k3 (by rcases i17 with _ | _ | _ | _ | _ | _ | _ | _ | _ <;> first | (obtain rfl := Option.some.inj hx16; rcases i21 with _ | _ | _ <;> first | (obtain rfl := Option.some.inj hx20; exact StV.mk sizeOf77 rfl rfl rfl rfl) | (cases hx20; done)) | (cases hx16; done))) (.inr fun _ _ _ h => (h.imp (Ls.of (.cons .k1 (.cons .k1 (.cons .k1 .nil))))).ro Rs.nil) fun _ _ => .conseq .k0 (q := blk b1 86 (purse_Book.cs (purse_Book.set a0 (a1).toNat (A2_api_Wide.set x15 (a2).toNat (wide_Sub x9 a3).1)))) (fun _ h_ => by rw [hi18_, hi22_]; first | exact h_ | (simp only [hi18_, hi22_] at h_; exact h_)) <| .dnil <| .then <| .seq <| .reg rfl <| .op (V.ld (v := Ag (purse_Book.cs (purse_Book.set a0 (a1).toNat (A2_api_Wide.set x15 (a2).toNat (wide_Sub x9 a3).1)))) .t1 .k0 (.agg isAgg86 sizeOf86 rfl rfl)) rfl <| .opg (G.str .t0 .g0 .k2 (.mk (cs' := (purse_Book.cs (purse_Book.set a0 (a1).toNat (A2_api_Wide.set x15 (a2).toNat (wide_Sub x9 a3).1)))) sizeOf86 rfl rfl rfl rfl)) rfl fun _ _ => .opp (P.asg .k) rfl <| .nil <| .then ?_
        refine .ret ?_
        cases h
        exact .finw () (.r2 rfl (.cell .g1 .k0 (.agg isAgg86 sizeOf86 rfl rfl)) (.tmp .g0)) trivial (Ls.of .nil) .nil
attribute [irreducible] purse_Book_Take
noncomputable def wide_Add (a0 : api_Wide) (a1 : api_Wide) : api_Wide × Bool :=
  if (decide ((add64 a0.a3 a1.a3 (add64 a0.a2 a1.a2 (add64 a0.a1 a1.a1 (add64 a0.a0 a1.a0 0).2).2).2).2 ≠ 0)) = true then (⟨0, 0, 0, 0⟩, false) else ((⟨(add64 a0.a0 a1.a0 0).1, (add64 a0.a1 a1.a1 (add64 a0.a0 a1.a0 0).2).1, (add64 a0.a2 a1.a2 (add64 a0.a1 a1.a1 (add64 a0.a0 a1.a0 0).2).2).1, (add64 a0.a3 a1.a3 (add64 a0.a2 a1.a2 (add64 a0.a1 a1.a1 (add64 a0.a0 a1.a0 0).2).2).2).1⟩, true))
set_option maxRecDepth 20000 in
set_option maxHeartbeats 8000000 in
theorem S_wide_Add (a0 : api_Wide) (a1 : api_Wide) (r : api_Wide × Bool) (h : wide_Add a0 a1 = r) :
    SpecF Tryz.prog 132 [Ag (api_Wide.cs a0), Ag (api_Wide.cs a1)] [] [] (fun z : Unit => True) (fun z => Tu [Ag (api_Wide.cs r.1), Bo r.2]) (fun z M =>  M) (fun z M =>  M) := by
  refine .of func132 rfl ntmps132 rfl fun w0 D0 G0 => ?_
  unfold wide_Add at h
  refine .seq <| .reg rfl <| .opx (X.box (cs := (api_Wide.cs a0)) .t0 rfl) rfl fun b1 => .opx (X.box (cs := (api_Wide.cs a1)) .t1 rfl) rfl fun b2 => .opx (X.alc (cs := (api_Wide.cs ⟨0, 0, 0, 0⟩)) zeroValue77 rfl) rfl fun b3 => .op0 (OpP.toV (P.asg .k)) rfl <| .nil <| .then <| .seq <| .reg rfl <| .opx (X.alc (cs := (api_Wide.cs ⟨0, 0, 0, 0⟩)) zeroValue77 rfl) rfl fun b4 => .nil ?_
  refine .then <| .seq <| .reg rfl <| .opp (P.asg .k) rfl <| .nil <| .then <| .seq <| .seq <| .reg rfl <| .opp (P.mov .k) rfl <| .nil <| .then ?_
  refine .block <| .rounds 5 <| .rd <| .seq <| .reg rfl <| .opp (P.bin (v := Bo true) .g0 .k (BinV.lss.boolc (by decide))) rfl <| .nil <| .then <| .seq <| .condT .t0 <| .skip <| .then ?_
  refine .seq <| .block <| .seq <| .reg rfl <| .opp (P.mov .g0) rfl <| .opp (P.asg .t0) rfl <| .nil <| .then <| .drawl [blk b3 77 (api_Wide.cs ⟨0, 0, 0, 0⟩), blk b2 77 (api_Wide.cs a1), blk b1 77 (api_Wide.cs a0)] [] (Ls.of (.cons .k1 (.cons .k1 (.cons .k1 .nil)))) Rs.nil 15 (.on 0 .pu (.on 1 .pu (.on 2 .pu (.on 4 .pu (.on 5 .pu (.on 7 .pu (.on 3 .ld (.on 6 .ld (.on 8 .pu (.on 9 .pu (.on 10 .pu (.on 11 .pu (.on 12 .pu (.on 13 .go (.on 14 .go .nl))))))))))))))) follows_mixed (.inb (.thn (.thn (.inb (.thn .body))))) (by kernel_rfl) <| .dpu rfl (.n rfl) (P.mov .g0) rfl rfl <| .dpu rfl (.n rfl) (P.mov .g1) rfl rfl <| .dpu rfl (.n rfl) (P.iac (i := 0) .t0 rfl .g7 runUnderlying77 sizeOf75 rfl rfl) rfl rfl ?_
  refine .dpu rfl (.n rfl) (P.mov .t2) rfl rfl <| .dpu rfl (.n rfl) (P.iac (i := 0) .t0 rfl .g6 runUnderlying77 sizeOf75 rfl rfl) rfl rfl <| .dpu rfl (.n rfl) (P.mov .g4) rfl rfl <| .dld rfl (.n rfl) (V.ld (v := U a0.a0) .t2 .k2 (.one isAgg75 rfl)) (fun _ h => (h.imp (Ls.of (.cons .k1 (.cons .k1 (.cons .k1 .nil))))).ro Rs.nil) rfl rfl <| .dld rfl (.n rfl) (V.ld (v := U a1.a0) .t2 .k1 (.one isAgg75 rfl)) (fun _ h => (h.imp (Ls.of (.cons .k1 (.cons .k1 (.cons .k1 .nil))))).ro Rs.nil) rfl rfl <| .dpu rfl (.n rfl) (P.extn (.cons .t1 (.cons .t0 (.cons .t0 .nil))) func195 rfl rfl fn_195 find_195 (run_add64u _ _ 0 zero_le1)) rfl rfl <| .dpu rfl (.n rfl) (P.mov .t0) rfl rfl <| .dpu rfl (.n rfl) (P.ext (v := U (add64 a0.a0 a1.a0 0).1) .g0 rfl) rfl rfl <| .dpu rfl (.n rfl) (P.ext (v := U (add64 a0.a0 a1.a0 0).2) .t1 rfl) rfl rfl <| .dpu rfl (.n rfl) (P.iac (i := 0) .t2 rfl .g4 runUnderlying77 sizeOf75 rfl rfl) rfl rfl <| .dgo rfl (.n rfl) (G.str .t2 .t0 .k0 (.mk (cs' := (api_Wide.cs ⟨(add64 a0.a0 a1.a0 0).1, 0, 0, 0⟩)) sizeOf75 rfl rfl rfl rfl)) (.inr fun _ _ _ h => (h.imp (Ls.of (.cons .k1 (.cons .k1 (.cons .k1 .nil))))).ro Rs.nil) fun _ _ => .drop .k2 ?_
  refine .dgo rfl (.n rfl) (OpV.g (OpP.toV (P.asg .t0)) rfl) (.inr fun _ _ _ h => (h.imp (Ls.of (.cons .k1 (.cons .k1 (.cons .k1 .nil))))).ro Rs.nil) fun _ _ => .dnil <| .inn <| .then <| .reg rfl <| .opp (P.bin (v := N 1) .g1 .k (.addc (by decide))) rfl <| .drop .k2 <| .opp (P.mov .t0) rfl <| .nil <| .then <| .rd <| .seq ?_
  refine .reg rfl <| .opp (P.bin (v := Bo true) .g0 .k (BinV.lss.boolc (by decide))) rfl <| .nil <| .then <| .seq <| .condT .t0 <| .skip <| .then <| .seq <| .block <| .seq <| .reg rfl ?_
  refine .opp (P.mov .g0) rfl <| .opp (P.asg .t0) rfl <| .nil <| .then <| .drawl [blk b3 77 (api_Wide.cs ⟨0, 0, 0, 0⟩), blk b2 77 (api_Wide.cs a1), blk b1 77 (api_Wide.cs a0)] [] (Ls.of (.cons .k1 (.cons .k1 (.cons .k1 .nil)))) Rs.nil 15 (.on 0 .pu (.on 1 .pu (.on 2 .pu (.on 4 .pu (.on 5 .pu (.on 7 .pu (.on 3 .ld (.on 6 .ld (.on 8 .pu (.on 9 .pu (.on 10 .pu (.on 11 .pu (.on 12 .pu (.on 13 .go (.on 14 .go .nl))))))))))))))) follows_mixed (.inb (.thn (.thn (.inb (.thn .body))))) (by kernel_rfl) <| .dpu rfl (.n rfl) (P.mov .g0) rfl rfl <| .dpu rfl (.n rfl) (P.mov .g1) rfl rfl <| .dpu rfl (.n rfl) (P.iac (i := 1) .t0 rfl .g7 runUnderlying77 sizeOf75 rfl rfl) rfl rfl <| .dpu rfl (.n rfl) (P.mov .t2) rfl rfl <| .dpu rfl (.n rfl) (P.iac (i := 1) .t0 rfl .g6 runUnderlying77 sizeOf75 rfl rfl) rfl rfl <| .dpu rfl (.n rfl) (P.mov .g4) rfl rfl <| .dld rfl (.n rfl) (V.ld (v := U a0.a1) .t2 .k2 (.one isAgg75 rfl)) (fun _ h => (h.imp (Ls.of (.cons .k1 (.cons .k1 (.cons .k1 .nil))))).ro Rs.nil) rfl rfl ?_
  refine .dld rfl (.n rfl) (V.ld (v := U a1.a1) .t2 .k1 (.one isAgg75 rfl)) (fun _ h => (h.imp (Ls.of (.cons .k1 (.cons .k1 (.cons .k1 .nil))))).ro Rs.nil) rfl rfl <| .dpu rfl (.n rfl) (P.extn (.cons .t1 (.cons .t0 (.cons .t0 .nil))) func195 rfl rfl fn_195 find_195 (run_add64u _ _ _ add64_le)) rfl rfl <| .dpu rfl (.n rfl) (P.mov .t0) rfl rfl <| .dpu rfl (.n rfl) (P.ext (v := U (add64 a0.a1 a1.a1 (add64 a0.a0 a1.a0 0).2).1) .g0 rfl) rfl rfl <| .dpu rfl (.n rfl) (P.ext (v := U (add64 a0.a1 a1.a1 (add64 a0.a0 a1.a0 0).2).2) .t1 rfl) rfl rfl <| .dpu rfl (.n rfl) (P.iac (i := 1) .t2 rfl .g4 runUnderlying77 sizeOf75 rfl rfl) rfl rfl <| .dgo rfl (.n rfl) (G.str .t2 .t0 .k0 (.mk (cs' := (api_Wide.cs ⟨(add64 a0.a0 a1.a0 0).1, (add64 a0.a1 a1.a1 (add64 a0.a0 a1.a0 0).2).1, 0, 0⟩)) sizeOf75 rfl rfl rfl rfl)) (.inr fun _ _ _ h => (h.imp (Ls.of (.cons .k1 (.cons .k1 (.cons .k1 .nil))))).ro Rs.nil) fun _ _ => .drop .k2 <| .dgo rfl (.n rfl) (OpV.g (OpP.toV (P.asg .t0)) rfl) (.inr fun _ _ _ h => (h.imp (Ls.of (.cons .k1 (.cons .k1 (.cons .k1 .nil))))).ro Rs.nil) fun _ _ => .dnil <| .inn <| .then ?_
  refine .reg rfl <| .opp (P.bin (v := N 2) .g1 .k (.addc (by decide))) rfl <| .drop .k2 <| .opp (P.mov .t0) rfl <| .nil <| .then <| .rd <| .seq <| .reg rfl <| .opp (P.bin (v := Bo true) .g0 .k (BinV.lss.boolc (by decide))) rfl <| .nil <| .then ?_
  refine .seq <| .condT .t0 <| .skip <| .then <| .seq <| .block <| .seq <| .reg rfl <| .opp (P.mov .g0) rfl <| .opp (P.asg .t0) rfl <| .nil <| .then ?_
  refine .drawl [blk b3 77 (api_Wide.cs ⟨0, 0, 0, 0⟩), blk b2 77 (api_Wide.cs a1), blk b1 77 (api_Wide.cs a0)] [] (Ls.of (.cons .k1 (.cons .k1 (.cons .k1 .nil)))) Rs.nil 15 (.on 0 .pu (.on 1 .pu (.on 2 .pu (.on 4 .pu (.on 5 .pu (.on 7 .pu (.on 3 .ld (.on 6 .ld (.on 8 .pu (.on 9 .pu (.on 10 .pu (.on 11 .pu (.on 12 .pu (.on 13 .go (.on 14 .go .nl))))))))))))))) follows_mixed (.inb (.thn (.thn (.inb (.thn .body))))) (by kernel_rfl) <| .dpu rfl (.n rfl) (P.mov .g0) rfl rfl <| .dpu rfl (.n rfl) (P.mov .g1) rfl rfl <| .dpu rfl (.n rfl) (P.iac (i := 2) .t0 rfl .g7 runUnderlying77 sizeOf75 rfl rfl) rfl rfl <| .dpu rfl (.n rfl) (P.mov .t2) rfl rfl <| .dpu rfl (.n rfl) (P.iac (i := 2) .t0 rfl .g6 runUnderlying77 sizeOf75 rfl rfl) rfl rfl <| .dpu rfl (.n rfl) (P.mov .g4) rfl rfl <| .dld rfl (.n rfl) (V.ld (v := U a0.a2) .t2 .k2 (.one isAgg75 rfl)) (fun _ h => (h.imp (Ls.of (.cons .k1 (.cons .k1 (.cons .k1 .nil))))).ro Rs.nil) rfl rfl <| .dld rfl (.n rfl) (V.ld (v := U a1.a2) .t2 .k1 (.one isAgg75 rfl)) (fun _ h => (h.imp (Ls.of (.cons .k1 (.cons .k1 (.cons .k1 .nil))))).ro Rs.nil) rfl rfl <| .dpu rfl (.n rfl) (P.extn (.cons .t1 (.cons .t0 (.cons .t0 .nil))) func195 rfl rfl fn_195 find_195 (run_add64u _ _ _ add64_le)) rfl rfl <| .dpu rfl (.n rfl) (P.mov .t0) rfl rfl <| .dpu rfl (.n rfl) (P.ext (v := U (add64 a0.a2 a1.a2 (add64 a0.a1 a1.a1 (add64 a0.a0 a1.a0 0).2).2).1) .g0 rfl) rfl rfl ?_
  refine .dpu rfl (.n rfl) (P.ext (v := U (add64 a0.a2 a1.a2 (add64 a0.a1 a1.a1 (add64 a0.a0 a1.a0 0).2).2).2) .t1 rfl) rfl rfl <| .dpu rfl (.n rfl) (P.iac (i := 2) .t2 rfl .g4 runUnderlying77 sizeOf75 rfl rfl) rfl rfl <| .dgo rfl (.n rfl) (G.str .t2 .t0 .k0 (.mk (cs' := (api_Wide.cs ⟨(add64 a0.a0 a1.a0 0).1, (add64 a0.a1 a1.a1 (add64 a0.a0 a1.a0 0).2).1, (add64 a0.a2 a1.a2 (add64 a0.a1 a1.a1 (add64 a0.a0 a1.a0 0).2).2).1, 0⟩)) sizeOf75 rfl rfl rfl rfl)) (.inr fun _ _ _ h => (h.imp (Ls.of (.cons .k1 (.cons .k1 (.cons .k1 .nil))))).ro Rs.nil) fun _ _ => .drop .k2 <| .dgo rfl (.n rfl) (OpV.g (OpP.toV (P.asg .t0)) rfl) (.inr fun _ _ _ h => (h.imp (Ls.of (.cons .k1 (.cons .k1 (.cons .k1 .nil))))).ro Rs.nil) fun _ _ => .dnil <| .inn <| .then <| .reg rfl <| .opp (P.bin (v := N 3) .g1 .k (.addc (by decide))) rfl <| .drop .k2 <| .opp (P.mov .t0) rfl ?_
  refine .nil <| .then <| .rd <| .seq <| .reg rfl <| .opp (P.bin (v := Bo true) .g0 .k (BinV.lss.boolc (by decide))) rfl <| .nil <| .then <| .seq <| .condT .t0 <| .skip <| .then ?_
  refine .seq <| .block <| .seq <| .reg rfl <| .opp (P.mov .g0) rfl <| .opp (P.asg .t0) rfl <| .nil <| .then <| .drawl [blk b3 77 (api_Wide.cs ⟨0, 0, 0, 0⟩), blk b2 77 (api_Wide.cs a1), blk b1 77 (api_Wide.cs a0)] [] (Ls.of (.cons .k1 (.cons .k1 (.cons .k1 .nil)))) Rs.nil 15 (.on 0 .pu (.on 1 .pu (.on 2 .pu (.on 4 .pu (.on 5 .pu (.on 7 .pu (.on 3 .ld (.on 6 .ld (.on 8 .pu (.on 9 .pu (.on 10 .pu (.on 11 .pu (.on 12 .pu (.on 13 .go (.on 14 .go .nl))))))))))))))) follows_mixed (.inb (.thn (.thn (.inb (.thn .body))))) (by kernel_rfl) <| .dpu rfl (.n rfl) (P.mov .g0) rfl rfl <| .dpu rfl (.n rfl) (P.mov .g1) rfl rfl <| .dpu rfl (.n rfl) (P.iac (i := 3) .t0 rfl .g7 runUnderlying77 sizeOf75 rfl rfl) rfl rfl ?_
  refine .dpu rfl (.n rfl) (P.mov .t2) rfl rfl <| .dpu rfl (.n rfl) (P.iac (i := 3) .t0 rfl .g6 runUnderlying77 sizeOf75 rfl rfl) rfl rfl <| .dpu rfl (.n rfl) (P.mov .g4) rfl rfl <| .dld rfl (.n rfl) (V.ld (v := U a0.a3) .t2 .k2 (.one isAgg75 rfl)) (fun _ h => (h.imp (Ls.of (.cons .k1 (.cons .k1 (.cons .k1 .nil))))).ro Rs.nil) rfl rfl <| .dld rfl (.n rfl) (V.ld (v := U a1.a3) .t2 .k1 (.one isAgg75 rfl)) (fun _ h => (h.imp (Ls.of (.cons .k1 (.cons .k1 (.cons .k1 .nil))))).ro Rs.nil) rfl rfl <| .dpu rfl (.n rfl) (P.extn (.cons .t1 (.cons .t0 (.cons .t0 .nil))) func195 rfl rfl fn_195 find_195 (run_add64u _ _ _ add64_le)) rfl rfl <| .dpu rfl (.n rfl) (P.mov .t0) rfl rfl <| .dpu rfl (.n rfl) (P.ext (v := U (add64 a0.a3 a1.a3 (add64 a0.a2 a1.a2 (add64 a0.a1 a1.a1 (add64 a0.a0 a1.a0 0).2).2).2).1) .g0 rfl) rfl rfl <| .dpu rfl (.n rfl) (P.ext (v := U (add64 a0.a3 a1.a3 (add64 a0.a2 a1.a2 (add64 a0.a1 a1.a1 (add64 a0.a0 a1.a0 0).2).2).2).2) .t1 rfl) rfl rfl <| .dpu rfl (.n rfl) (P.iac (i := 3) .t2 rfl .g4 runUnderlying77 sizeOf75 rfl rfl) rfl rfl <| .dgo rfl (.n rfl) (G.str .t2 .t0 .k0 (.mk (cs' := (api_Wide.cs ⟨(add64 a0.a0 a1.a0 0).1, (add64 a0.a1 a1.a1 (add64 a0.a0 a1.a0 0).2).1, (add64 a0.a2 a1.a2 (add64 a0.a1 a1.a1 (add64 a0.a0 a1.a0 0).2).2).1, (add64 a0.a3 a1.a3 (add64 a0.a2 a1.a2 (add64 a0.a1 a1.a1 (add64 a0.a0 a1.a0 0).2).2).2).1⟩)) sizeOf75 rfl rfl rfl rfl)) (.inr fun _ _ _ h => (h.imp (Ls.of (.cons .k1 (.cons .k1 (.cons .k1 .nil))))).ro Rs.nil) fun _ _ => .drop .k2 ?_
  refine .dgo rfl (.n rfl) (OpV.g (OpP.toV (P.asg .t0)) rfl) (.inr fun _ _ _ h => (h.imp (Ls.of (.cons .k1 (.cons .k1 (.cons .k1 .nil))))).ro Rs.nil) fun _ _ => .dnil <| .inn <| .then <| .reg rfl <| .opp (P.bin (v := N 4) .g1 .k (.addc (by decide))) rfl <| .drop .k2 <| .opp (P.mov .t0) rfl <| .nil <| .then <| .rd <| .seq ?_
  refine .reg rfl <| .opp (P.bin (v := Bo false) .g0 .k (BinV.lss.boolc (by decide))) rfl <| .nil <| .then <| .seq <| .condF .t0 <| .exit <| .thx <| .thx <| .inb <| .then <| .seq ?_
  refine .seq <| .reg rfl <| .opp (P.mov .t1) rfl <| .opp (P.bin .t0 .k (BinV.neqU (x := (add64 a0.a3 a1.a3 (add64 a0.a2 a1.a2 (add64 a0.a1 a1.a1 (add64 a0.a0 a1.a0 0).2).2).2).2) (y := 0))) rfl <| .nil <| .then <| .cond .t0 (fun c5 => ?_) (fun c5 => ?_)
  · rw [if_pos c5] at h
    refine .seq <| .reg rfl <| .opp (P.bld (v := Ag (api_Wide.cs ⟨0, 0, 0, 0⟩)) .nil (bld_runA zeroValue77 runUnderlying77 sizeOf75 (by kernel_rfl))) rfl <| .opg (G.str .t0 .g2 .k1 (.mk (cs' := (api_Wide.cs ⟨0, 0, 0, 0⟩)) sizeOf77 rfl rfl rfl rfl)) rfl fun _ _ => .opp (P.asg .k) rfl <| .nil <| .then <| .ret <| .thr ?_
    subst h
    exact .finw () (.r2 rfl (.cell .g3 .k0 (.agg isAgg77 sizeOf77 rfl rfl)) (.tmp .g0)) trivial (Ls.of .nil) .nil
  · rw [if_neg (ne_true_of_eq_false c5)] at h
    refine .skip <| .then <| .seq <| .reg rfl <| .op (V.ld (v := Ag (api_Wide.cs ⟨(add64 a0.a0 a1.a0 0).1, (add64 a0.a1 a1.a1 (add64 a0.a0 a1.a0 0).2).1, (add64 a0.a2 a1.a2 (add64 a0.a1 a1.a1 (add64 a0.a0 a1.a0 0).2).2).1, (add64 a0.a3 a1.a3 (add64 a0.a2 a1.a2 (add64 a0.a1 a1.a1 (add64 a0.a0 a1.a0 0).2).2).2).1⟩)) .t1 .k0 (.agg isAgg77 sizeOf77 rfl rfl)) rfl <| .opg (G.str .t0 .g1 .k1 (.mk (cs' := (api_Wide.cs ⟨(add64 a0.a0 a1.a0 0).1, (add64 a0.a1 a1.a1 (add64 a0.a0 a1.a0 0).2).1, (add64 a0.a2 a1.a2 (add64 a0.a1 a1.a1 (add64 a0.a0 a1.a0 0).2).2).1, (add64 a0.a3 a1.a3 (add64 a0.a2 a1.a2 (add64 a0.a1 a1.a1 (add64 a0.a0 a1.a0 0).2).2).2).1⟩)) sizeOf77 rfl rfl rfl rfl)) rfl fun _ _ => .opp (P.asg .k) rfl <| .nil <| .then <| .ret ?_
    subst h
    exact .finw () (.r2 rfl (.cell .g2 .k0 (.agg isAgg77 sizeOf77 rfl rfl)) (.tmp .g0)) trivial (Ls.of .nil) .nil
attribute [irreducible] wide_Add
set_option maxRecDepth 20000 in
set_option maxHeartbeats 8000000 in
theorem S_tryp (b2 b4 b5 : Nat) (s o : escrow_State) (zs zo : Value) (x e : Int) (hz : IsSl zs) : SpecD Tryz.prog 196 [pt b2 0, pt b4 0, pt b5 0] (.panicking (mustCh e)) (.panicking [{ v := .iface 316 (Ag [N e]), recovered := true }]) [blk b2 90 (escrow_State.cs s zs), blk b4 90 (escrow_State.cs o zo), blk b5 26 [N x]] [] [blk b2 90 (escrow_State.cs s zs), blk b4 90 (escrow_State.cs s zs), blk b5 26 [N e]] := by
  refine .of func196 rfl ntmps196 rfl rfl fun w0 D0 G0 c₀ cs W hm hW => ?_
  refine .srec (v := .iface 316 (Ag [N e])) (cs' := { c₀ with mode := .panicking [{ v := .iface 316 (Ag [N e]), recovered := true }] } :: cs) rfl rfl rfl (fun _ _ => rfl) (by simp [recoverD, hm]) rfl ?_
  refine .sop rfl rfl rfl (OpP.toV (P.tas .t0 runUnderlying316 (fun _ h => by cases h))) rfl ?_
  refine .sop rfl rfl rfl (OpP.toV (P.mov .t0)) rfl ?_
  refine .sop rfl rfl rfl (OpP.toV (P.ext (v := Ag [N e]) .g0 rfl)) rfl ?_
  refine .sop rfl rfl rfl (OpP.toV (P.ext (v := Bo true) .t1 rfl)) rfl ?_
  refine .sopx rfl rfl rfl (X.alc (cs := [N 0]) zeroValue316 rfl) rfl fun b6 => ?_
  refine .sst rfl (G.str .t2 .g0 .k0 (.mk (cs' := [N e]) sizeOf316 rfl rfl rfl rfl)) fun _ _ => ?_
  refine .sop rfl rfl rfl (OpP.toV (P.asg .t1)) rfl ?_
  refine .snil ?_
  refine .scode ?_
  refine .seq ?_
  refine .reg rfl ?_
  refine .opp (P.mov .t0) rfl ?_
  refine .nil ?_
  refine .then ?_
  refine .condT .t0 ?_
  refine .drawl [blk b6 316 (escrow_must.cs ⟨e⟩), blk b2 90 (escrow_State.cs s zs)] [] (Ls.of (.cons .k0 (.cons .k0 .nil))) Rs.nil 5 (.on 1 .pu (.on 0 .ld (.on 2 .ld (.on 3 .go (.on 4 .go .nl))))) follows_mixed (.bods fun u w h => by obtain ⟨⟨_, h⟩, _⟩ := (hW _ _ _).1 h; cases h) (by kernel_rfl) ?_
  refine .dpu rfl (.n rfl) (P.fa .t0 fa_316_0 rfl) rfl rfl ?_
  refine .dld rfl (.n rfl) (V.ld (v := Ag (escrow_State.cs s zs)) .t1 .k1 (.agg isAgg90 sizeOf90 rfl rfl)) (fun _ h => (h.imp (Ls.of (.cons .k0 (.cons .k0 .nil)))).ro Rs.nil) rfl rfl ?_
  refine .dld rfl (.n rfl) (V.ld (v := N e) .t1 .k0 (.one isAgg26 rfl)) (fun _ h => (h.imp (Ls.of (.cons .k0 (.cons .k0 .nil)))).ro Rs.nil) rfl rfl ?_
  refine .dgo rfl (.n rfl) (G.str .t1 .t1 .k2 (.mk (cs' := (escrow_State.cs s zs)) sizeOf90 rfl (onez_90 (s : escrow_State) (onec hz)) rfl rfl)) (.inr fun _ _ _ h => (h.imp (Ls.of (.cons .k1 (.cons .k1 .nil)))).ro Rs.nil) fun _ _ => ?_
  refine .dgo rfl (.n rfl) (G.str .t0 .t0 .k3 (.mk (cs' := [N e]) sizeOf26 rfl rfl rfl rfl)) (.inr fun _ _ _ h => (h.imp (Ls.of (.cons .k2 (.cons .k2 .nil)))).ro Rs.nil) fun _ _ => ?_
  refine .dnil ?_
  exact .sfin rfl hW rfl (Ls.of (.cons .k3 (.cons .k1 (.cons .k0 .nil))))
set_option maxRecDepth 20000 in
set_option maxHeartbeats 8000000 in
theorem S_tryr (b2 b4 b5 : Nat) (s o : escrow_State) (zs zo : Value) (x e : Int) (hz : IsSl zs) : SpecD Tryz.prog 196 [pt b2 0, pt b4 0, pt b5 0] .returning .returning [blk b2 90 (escrow_State.cs s zs), blk b4 90 (escrow_State.cs o zo), blk b5 26 [N x]] [] [blk b2 90 (escrow_State.cs s zs), blk b4 90 (escrow_State.cs o zo), blk b5 26 [N x]] := by
  refine .of func196 rfl ntmps196 rfl rfl fun w0 D0 G0 c₀ cs W hm hW => ?_
  refine .srecn rfl rfl rfl (fun _ _ => rfl) (by simp [recoverD, hm]) rfl ?_
  refine .sop rfl rfl rfl (OpP.toV (P.tasn .t0 runUnderlying316 (fun _ h => by cases h) zeroValue316)) rfl ?_
  refine .sop rfl rfl rfl (OpP.toV (P.mov .t0)) rfl ?_
  refine .sop rfl rfl rfl (OpP.toV (P.ext (v := Ag [N 0]) .g0 rfl)) rfl ?_
  refine .sop rfl rfl rfl (OpP.toV (P.ext (v := Bo false) .t1 rfl)) rfl ?_
  refine .sopx rfl rfl rfl (X.alc (cs := [N 0]) zeroValue316 rfl) rfl fun b6 => ?_
  refine .sst rfl (G.str .t2 .g0 .k0 (.mk (cs' := [N 0]) sizeOf316 rfl rfl rfl rfl)) fun _ _ => ?_
  refine .sop rfl rfl rfl (OpP.toV (P.asg .t1)) rfl ?_
  refine .snil ?_
  refine .scode ?_
  refine .seq ?_
  refine .reg rfl ?_
  refine .opp (P.mov .t0) rfl ?_
  refine .nil ?_
  refine .then ?_
  refine .condF .t0 ?_
  refine .skip ?_
  exact .sfin rfl hW (by cases c₀; simp at hm; simp [hm]) (Ls.of (.cons .k1 (.cons .k1 (.cons .k1 .nil))))
noncomputable def purse_Book_Give (a0 : purse_Book) (a1 : Int) (a2 : Int) (a3 : api_Wide) : Option (purse_Book × Int) :=
  if (!(purse_at a1 a2)) = true then (some (a0, 4)) else (Option.bind (at_ (purse_Book.list a0) a1) fun (x5 : A2_api_Wide) => Option.bind (at_ (A2_api_Wide.list x5) a2) fun (x9 : api_Wide) => if (!(wide_Add x9 a3).2) = true then (some (a0, 38)) else (Option.bind (at_ (purse_Book.list a0) a1) fun (x15 : A2_api_Wide) => Option.bind (at_ (A2_api_Wide.list x15) a2) fun (x19 : api_Wide) => some ((purse_Book.set a0 (a1).toNat (A2_api_Wide.set x15 (a2).toNat (wide_Add x9 a3).1), 0))))
set_option maxRecDepth 20000 in
set_option maxHeartbeats 8000000 in
theorem S_purse_Book_Give (a0 : purse_Book) (a1 : Int) (a2 : Int) (a3 : api_Wide) (r : purse_Book × Int) (h : purse_Book_Give a0 a1 a2 a3 = some r) :
    SpecF Tryz.prog 324 [Ag (purse_Book.cs a0), N a1, N a2, Ag (api_Wide.cs a3)] [] [] (fun z : Unit => True) (fun z => Tu [Ag (purse_Book.cs r.1), N r.2]) (fun z M =>  M) (fun z M =>  M) := by
  refine .of func324 rfl ntmps324 rfl fun w0 D0 G0 => ?_
  unfold purse_Book_Give at h
  refine .seq <| .reg rfl <| .opx (X.box (cs := (purse_Book.cs a0)) .t0 rfl) rfl fun b1 => .opx (X.box (cs := (api_Wide.cs a3)) .t3 rfl) rfl fun b2 => .opx (X.alc (cs := (purse_Book.cs ⟨⟨⟨0, 0, 0, 0⟩, ⟨0, 0, 0, 0⟩⟩, ⟨⟨0, 0, 0, 0⟩, ⟨0, 0, 0, 0⟩⟩, ⟨⟨0, 0, 0, 0⟩, ⟨0, 0, 0, 0⟩⟩, ⟨⟨0, 0, 0, 0⟩, ⟨0, 0, 0, 0⟩⟩, ⟨⟨0, 0, 0, 0⟩, ⟨0, 0, 0, 0⟩⟩, ⟨⟨0, 0, 0, 0⟩, ⟨0, 0, 0, 0⟩⟩, ⟨⟨0, 0, 0, 0⟩, ⟨0, 0, 0, 0⟩⟩, ⟨⟨0, 0, 0, 0⟩, ⟨0, 0, 0, 0⟩⟩⟩)) zeroValue86 rfl) rfl fun b3 => .op0 (OpP.toV (P.asg .k)) rfl <| .nil <| .then <| .seq <| .seq <| .reg rfl <| .opp (P.mov .g3) rfl ?_
  refine .opp (P.mov .g5) rfl <| .opg (G.call call194 (.cons .t1 (.cons .t0 .nil)) (S_purse_at a1 a2 _ rfl) .nil .nil (fun _ _ => rfl) (fun _ _ => rfl) rfl) rfl fun _ _ => .opp (P.not .t0) rfl <| .nil <| .then <| .cond .t0 (fun c4 => ?_) (fun c4 => ?_)
  · rw [if_pos c4] at h
    refine .seq <| .reg rfl <| .op (V.ld (v := Ag (purse_Book.cs a0)) .t2 .k2 (.agg isAgg86 sizeOf86 rfl rfl)) rfl <| .opg (G.str .t0 .g0 .k0 (.mk (cs' := (purse_Book.cs a0)) sizeOf86 rfl rfl rfl rfl)) rfl fun _ _ => .opp (P.asg .k) rfl <| .nil <| .then <| .ret <| .thr ?_
    cases h
    exact .finw () (.r2 rfl (.cell .g1 .k0 (.agg isAgg86 sizeOf86 rfl rfl)) (.tmp .g0)) trivial (Ls.of .nil) .nil
  · rw [if_neg (ne_true_of_eq_false c4)] at h
    refine .skip <| .then <| .seq ?_
    obtain ⟨x5, hx6, h⟩ := bnd_eq h
    obtain ⟨i7, hi8, hx6⟩ := at_eq hx6
    have hi8_ : (a1).toNat = i7 := by rw [hi8]; rfl
    obtain ⟨x9, hx10, h⟩ := bnd_eq h
    obtain ⟨i11, hi12, hx10⟩ := at_eq hx10
    have hi12_ : (a2).toNat = i11 := by rw [hi12]; rfl
    refine .dcut (γ := Nat) (φ := fun _ => True) (E1 := fun x_ => [(11, Bo (wide_Add x9 a3).2), (10, pt x_ 0), (8, pt b3 0), (4, pt b1 0), (1, N a1), (2, N a2)]) (L1 := fun x_ => [blk x_ 77 (api_Wide.cs (wide_Add x9 a3).1), blk b3 86 (purse_Book.cs ⟨⟨⟨0, 0, 0, 0⟩, ⟨0, 0, 0, 0⟩⟩, ⟨⟨0, 0, 0, 0⟩, ⟨0, 0, 0, 0⟩⟩, ⟨⟨0, 0, 0, 0⟩, ⟨0, 0, 0, 0⟩⟩, ⟨⟨0, 0, 0, 0⟩, ⟨0, 0, 0, 0⟩⟩, ⟨⟨0, 0, 0, 0⟩, ⟨0, 0, 0, 0⟩⟩, ⟨⟨0, 0, 0, 0⟩, ⟨0, 0, 0, 0⟩⟩, ⟨⟨0, 0, 0, 0⟩, ⟨0, 0, 0, 0⟩⟩, ⟨⟨0, 0, 0, 0⟩, ⟨0, 0, 0, 0⟩⟩⟩), blk b2 77 (api_Wide.cs a3), blk b1 86 (purse_Book.cs a0)]) (R1 := fun x_ => []) ?_ (fun b13 _ => ?_)
    · refine .draw 13 (.on 0 .pu (.on 1 .pu (.on 2 .pu (.on 3 .pu (.on 4 .ld (.on 5 .ld (.fk 6 10 (.on 7 .pu (.on 8 .pu (.on 9 .pu (.on 10 .go (.on 11 .go (.on 12 .go .nl)))))) (.on 6 .go (.on 7 .pu (.on 8 .pu (.on 9 .pu (.on 11 .go (.on 12 .go .nl))))))))))))) follows_mixed (.thn (.thn .body)) (by kernel_rfl) <| .dpu rfl (.n rfl) (P.mov .g3) rfl rfl <| .dpu rfl (.n rfl) (P.mov .g5) rfl rfl <| .dpu rfl (.n rfl) (P.iad (i := i7) (off' := (0 + i7 * 8)) .t1 hi8 .g3 runUnderlying86 sizeOf84 (lt_of_get hx6) rfl) rfl rfl <| .dpu rfl (.n rfl) (P.iad (i := i11) (off' := ((0 + i7 * 8) + i11 * 4)) .t1 hi12 .t0 runUnderlying84 sizeOf77 (lt_of_get hx10) rfl) rfl rfl <| .dld rfl (.n rfl) (V.ld (v := Ag (api_Wide.cs x9)) .t0 .k2 (by rcases i7 with _ | _ | _ | _ | _ | _ | _ | _ | _ <;> first | (obtain rfl := Option.some.inj hx6; rcases i11 with _ | _ | _ <;> first | (obtain rfl := Option.some.inj hx10; exact LdV.agg isAgg77 sizeOf77 rfl rfl) | (cases hx10; done)) | (cases hx6; done))) (fun _ h => h) rfl rfl <| .dld rfl (.n rfl) (V.ld (v := Ag (api_Wide.cs a3)) .t2 .k1 (.agg isAgg77 sizeOf77 rfl rfl)) (fun _ h => h) rfl rfl <| .dfk ?_ ?_
      · exact .dgo rfl (.n rfl) (G.call call132 (.cons .t1 (.cons .t0 .nil)) (S_wide_Add x9 a3 _ rfl) .nil .nil (fun _ _ => rfl) (fun _ _ => rfl) rfl) (.inr fun _ _ _ h => h) fun _ _ => .dpu rfl (.n rfl) (P.mov .t0) rfl rfl <| .dpu rfl (.n rfl) (P.ext (v := Ag (api_Wide.cs (wide_Add x9 a3).1)) .g0 rfl) rfl rfl <| .dpu rfl (.n rfl) (P.ext (v := Bo (wide_Add x9 a3).2) .t1 rfl) rfl rfl <| .dgo rfl (.n rfl) (OpX.g (X.alc (cs := (api_Wide.cs ⟨0, 0, 0, 0⟩)) zeroValue77 rfl) rfl) (.inr fun _ _ _ h => (h.imp (Ls.of (.cons .k1 (.cons .k1 (.cons .k1 .nil))))).ro Rs.nil) fun b13 _ => .dgo rfl (.n rfl) (G.str .t2 .g0 .k0 (.mk (cs' := (api_Wide.cs (wide_Add x9 a3).1)) sizeOf77 rfl rfl rfl rfl)) (.inr fun _ _ _ h => (h.imp (Ls.of (.cons .k1 (.cons .k1 (.cons .k1 .nil))))).ro Rs.nil) fun _ _ => .dgo rfl (.n rfl) (OpV.g (OpP.toV (P.asg .t1)) rfl) (.inr fun _ _ _ h => (h.imp (Ls.of (.cons .k1 (.cons .k1 (.cons .k1 .nil))))).ro Rs.nil) fun _ _ => .dnil <| .dst b13 trivial (.cons Mm.m0 (.cons Mm.m1 (.cons Mm.m2 (.cons Mm.m3 (.cons Mm.m4 (.cons Mm.m5 .nil)))))) (Ls.of (.cons .k0 (.cons .k0 (.cons .k0 (.cons .k0 .nil))))) .nil
      · exact .dgo rfl (.n rfl) (OpX.g (X.alc (cs := (api_Wide.cs ⟨0, 0, 0, 0⟩)) zeroValue77 rfl) rfl) (.inr fun _ _ _ h => (h.imp (Ls.of (.cons .k1 (.cons .k1 (.cons .k1 .nil))))).ro Rs.nil) fun b13 _ => .dgo rfl (.n rfl) (G.call call132 (.cons .t2 (.cons .t1 .nil)) (S_wide_Add x9 a3 _ rfl) .nil .nil (fun _ _ => rfl) (fun _ _ => rfl) rfl) (.inr fun _ _ _ h => (h.imp (Ls.of (.cons .k1 (.cons .k1 (.cons .k1 .nil))))).ro Rs.nil) fun _ _ => .dpu rfl (.n rfl) (P.mov .t0) rfl rfl <| .dpu rfl (.n rfl) (P.ext (v := Ag (api_Wide.cs (wide_Add x9 a3).1)) .g0 rfl) rfl rfl <| .dpu rfl (.n rfl) (P.ext (v := Bo (wide_Add x9 a3).2) .t1 rfl) rfl rfl <| .dgo rfl (.n rfl) (G.str .t1 .g1 .k0 (.mk (cs' := (api_Wide.cs (wide_Add x9 a3).1)) sizeOf77 rfl rfl rfl rfl)) (.inr fun _ _ _ h => (h.imp (Ls.of (.cons .k1 (.cons .k1 (.cons .k1 .nil))))).ro Rs.nil) fun _ _ => .dgo rfl (.n rfl) (OpV.g (OpP.toV (P.asg .t0)) rfl) (.inr fun _ _ _ h => (h.imp (Ls.of (.cons .k1 (.cons .k1 (.cons .k1 .nil))))).ro Rs.nil) fun _ _ => .dnil <| .dst b13 trivial (.cons Mm.m0 (.cons Mm.m1 (.cons Mm.m2 (.cons Mm.m3 (.cons Mm.m4 (.cons Mm.m5 .nil)))))) (Ls.of (.cons .k0 (.cons .k0 (.cons .k0 (.cons .k0 .nil))))) .nil
    · refine .then <| .seq <| .seq <| .reg rfl <| .opp (P.mov .t0) rfl <| .opp (P.not .t0) rfl <| .nil <| .then <| .cond .t0 (fun c14 => ?_) (fun c14 => ?_)
      · rw [if_pos c14] at h
        refine .seq <| .reg rfl <| .op (V.ld (v := Ag (purse_Book.cs a0)) .t2 .k3 (.agg isAgg86 sizeOf86 rfl rfl)) rfl <| .opg (G.str .t0 .g1 .k1 (.mk (cs' := (purse_Book.cs a0)) sizeOf86 rfl rfl rfl rfl)) rfl fun _ _ => .opp (P.asg .k) rfl <| .nil <| .then <| .ret <| .thr ?_
        cases h
        exact .finw () (.r2 rfl (.cell .g2 .k0 (.agg isAgg86 sizeOf86 rfl rfl)) (.tmp .g0)) trivial (Ls.of .nil) .nil
      · rw [if_neg (ne_true_of_eq_false c14)] at h
        refine .skip <| .then <| .seq <| .drawl [blk b13 77 (api_Wide.cs (wide_Add x9 a3).1), blk b3 86 (purse_Book.cs ⟨⟨⟨0, 0, 0, 0⟩, ⟨0, 0, 0, 0⟩⟩, ⟨⟨0, 0, 0, 0⟩, ⟨0, 0, 0, 0⟩⟩, ⟨⟨0, 0, 0, 0⟩, ⟨0, 0, 0, 0⟩⟩, ⟨⟨0, 0, 0, 0⟩, ⟨0, 0, 0, 0⟩⟩, ⟨⟨0, 0, 0, 0⟩, ⟨0, 0, 0, 0⟩⟩, ⟨⟨0, 0, 0, 0⟩, ⟨0, 0, 0, 0⟩⟩, ⟨⟨0, 0, 0, 0⟩, ⟨0, 0, 0, 0⟩⟩, ⟨⟨0, 0, 0, 0⟩, ⟨0, 0, 0, 0⟩⟩⟩), blk b2 77 (api_Wide.cs a3)] [] (Ls.of (.cons .k0 (.cons .k0 (.cons .k0 .nil)))) Rs.nil 6 (.on 0 .pu (.on 1 .pu (.on 3 .pu (.on 2 .ld (.on 4 .pu (.on 5 .go .nl)))))) follows_mixed (.thn .body) (by kernel_rfl) <| .dpu rfl (.n rfl) (P.mov .t3) rfl rfl <| .dpu rfl (.n rfl) (P.mov .t4) rfl rfl ?_
        obtain ⟨x15, hx16, h⟩ := bnd_eq h
        obtain ⟨i17, hi18, hx16⟩ := at_eq hx16
        have hi18_ : (a1).toNat = i17 := by rw [hi18]; rfl
        refine .dpu rfl (.n rfl) (P.iad (i := i17) (off' := (0 + i17 * 8)) .t1 hi18 .g3 runUnderlying86 sizeOf84 (lt_of_get hx16) rfl) rfl rfl <| .dld rfl (.n rfl) (V.ld (v := Ag (api_Wide.cs (wide_Add x9 a3).1)) .t2 .k0 (.agg isAgg77 sizeOf77 rfl rfl)) (fun _ h => (h.imp (Ls.of (.cons .k0 (.cons .k0 (.cons .k0 .nil))))).ro Rs.nil) rfl rfl ?_
        obtain ⟨x19, hx20, h⟩ := bnd_eq h
        obtain ⟨i21, hi22, hx20⟩ := at_eq hx20
        have hi22_ : (a2).toNat = i21 := by rw [hi22]; rfl
        refine .dpu rfl (.n rfl) (P.iad (i := i21) (off' := ((0 + i17 * 8) + i21 * 4)) .t2 hi22 .t1 runUnderlying84 sizeOf77 (lt_of_get hx20) rfl) rfl rfl <| .dgo rfl (.n rfl) (G.str (cs' := (purse_Book.cs (purse_Book.set a0 i17 (A2_api_Wide.set x15 i21 (wide_Add x9 a3).1)))) .t1 .t0 .k3 (by rcases i17 with _ | _ | _ | _ | _ | _ | _ | _ | _ <;> first | (obtain rfl := Option.some.inj hx16; rcases i21 with _ | _ | _ <;> first | (obtain rfl := Option.some.inj hx20; exact StV.mk sizeOf77 rfl rfl rfl rfl) | (cases hx20; done)) | (cases hx16; done))) (.inr fun _ _ _ h => (h.imp (Ls.of (.cons .k1 (.cons .k1 (.cons .k1 .nil))))).ro Rs.nil) fun _ _ => .conseq .k0 (q := blk b1 86 (purse_Book.cs (purse_Book.set a0 (a1).toNat (A2_api_Wide.set x15 (a2).toNat (wide_Add x9 a3).1)))) (fun _ h_ => by rw [hi18_, hi22_]; first | exact h_ | (simp only [hi18_, hi22_] at h_; exact h_)) <| .dnil <| .then <| .seq <| .reg rfl <| .op (V.ld (v := Ag (purse_Book.cs (purse_Book.set a0 (a1).toNat (A2_api_Wide.set x15 (a2).toNat (wide_Add x9 a3).1)))) .t1 .k0 (.agg isAgg86 sizeOf86 rfl rfl)) rfl <| .opg (G.str .t0 .g0 .k2 (.mk (cs' := (purse_Book.cs (purse_Book.set a0 (a1).toNat (A2_api_Wide.set x15 (a2).toNat (wide_Add x9 a3).1)))) sizeOf86 rfl rfl rfl rfl)) rfl fun _ _ => .opp (P.asg .k) rfl <| .nil <| .then ?_
        refine .ret ?_
        cases h
        exact .finw () (.r2 rfl (.cell .g1 .k0 (.agg isAgg86 sizeOf86 rfl rfl)) (.tmp .g0)) trivial (Ls.of .nil) .nil
attribute [irreducible] purse_Book_Give
noncomputable def purse_Book_Move (a0 : purse_Book) (a1 : Int) (a2 : Int) (a3 : Int) (a4 : api_Wide) : Option (purse_Book × Int) :=
  Option.bind (purse_Book_Take a0 a1 a3 a4) fun r4 => if (decide (r4.2 ≠ 0)) = true then (some (a0, r4.2)) else (Option.bind (purse_Book_Give r4.1 a2 a3 a4) fun r8 => if (decide (r8.2 ≠ 0)) = true then (some (a0, r8.2)) else (some (r8.1, 0)))
set_option maxRecDepth 20000 in
set_option maxHeartbeats 8000000 in
theorem S_purse_Book_Move (a0 : purse_Book) (a1 : Int) (a2 : Int) (a3 : Int) (a4 : api_Wide) (r : purse_Book × Int) (h : purse_Book_Move a0 a1 a2 a3 a4 = some r) :
    SpecF Tryz.prog 259 [Ag (purse_Book.cs a0), N a1, N a2, N a3, Ag (api_Wide.cs a4)] [] [] (fun z : Unit => True) (fun z => Tu [Ag (purse_Book.cs r.1), N r.2]) (fun z M =>  M) (fun z M =>  M) := by
  refine .of func259 rfl ntmps259 rfl fun w0 D0 G0 => ?_
  unfold purse_Book_Move at h
  refine .seq <| .reg rfl <| .opx (X.box (cs := (purse_Book.cs a0)) .t0 rfl) rfl fun b1 => .opx (X.box (cs := (api_Wide.cs a4)) .t4 rfl) rfl fun b2 => .opx (X.alc (cs := (purse_Book.cs ⟨⟨⟨0, 0, 0, 0⟩, ⟨0, 0, 0, 0⟩⟩, ⟨⟨0, 0, 0, 0⟩, ⟨0, 0, 0, 0⟩⟩, ⟨⟨0, 0, 0, 0⟩, ⟨0, 0, 0, 0⟩⟩, ⟨⟨0, 0, 0, 0⟩, ⟨0, 0, 0, 0⟩⟩, ⟨⟨0, 0, 0, 0⟩, ⟨0, 0, 0, 0⟩⟩, ⟨⟨0, 0, 0, 0⟩, ⟨0, 0, 0, 0⟩⟩, ⟨⟨0, 0, 0, 0⟩, ⟨0, 0, 0, 0⟩⟩, ⟨⟨0, 0, 0, 0⟩, ⟨0, 0, 0, 0⟩⟩⟩)) zeroValue86 rfl) rfl fun b3 => .op0 (OpP.toV (P.asg .k)) rfl <| .nil <| .then <| .seq <| .reg rfl <| .op (V.ld (v := Ag (purse_Book.cs a0)) .g2 .k2 (.agg isAgg86 sizeOf86 rfl rfl)) rfl <| .opp (P.mov .t4) rfl ?_
  refine .opp (P.mov .g6) rfl <| .op (V.ld (v := Ag (api_Wide.cs a4)) .g4 .k1 (.agg isAgg77 sizeOf77 rfl rfl)) rfl ?_
  obtain ⟨r4, hr5, h⟩ := bnd_eq h
  refine .opg (G.call call131 (.cons .t3 (.cons .t2 (.cons .t1 (.cons .t0 .nil)))) (S_purse_Book_Take a0 a1 a3 a4 r4 hr5) .nil .nil (fun _ _ => rfl) (fun _ _ => rfl) rfl) rfl fun _ _ => .opp (P.mov .t0) rfl <| .opp (P.ext (v := Ag (purse_Book.cs r4.1)) .g0 rfl) rfl <| .opp (P.ext (v := N r4.2) .t1 rfl) rfl <| .opx (X.alc (cs := (purse_Book.cs ⟨⟨⟨0, 0, 0, 0⟩, ⟨0, 0, 0, 0⟩⟩, ⟨⟨0, 0, 0, 0⟩, ⟨0, 0, 0, 0⟩⟩, ⟨⟨0, 0, 0, 0⟩, ⟨0, 0, 0, 0⟩⟩, ⟨⟨0, 0, 0, 0⟩, ⟨0, 0, 0, 0⟩⟩, ⟨⟨0, 0, 0, 0⟩, ⟨0, 0, 0, 0⟩⟩, ⟨⟨0, 0, 0, 0⟩, ⟨0, 0, 0, 0⟩⟩, ⟨⟨0, 0, 0, 0⟩, ⟨0, 0, 0, 0⟩⟩, ⟨⟨0, 0, 0, 0⟩, ⟨0, 0, 0, 0⟩⟩⟩)) zeroValue86 rfl) rfl fun b6 => .opg (G.str .t2 .g0 .k0 (.mk (cs' := (purse_Book.cs r4.1)) sizeOf86 rfl rfl rfl rfl)) rfl fun _ _ => .opp (P.asg .t1) rfl <| .nil <| .then <| .seq <| .seq <| .reg rfl ?_
  refine .opp (P.mov .g0) rfl <| .opp (P.bin .t0 .k .neq) rfl <| .nil <| .then <| .cond .t0 (fun c7 => ?_) (fun c7 => ?_)
  · rw [if_pos c7] at h
    refine .seq <| .reg rfl <| .op (V.ld (v := Ag (purse_Book.cs a0)) .t4 .k3 (.agg isAgg86 sizeOf86 rfl rfl)) rfl <| .opp (P.mov .t1) rfl <| .opg (G.str .t1 .g2 .k1 (.mk (cs' := (purse_Book.cs a0)) sizeOf86 rfl rfl rfl rfl)) rfl fun _ _ => .opp (P.asg .t0) rfl <| .nil <| .then <| .ret <| .thr ?_
    cases h
    exact .finw () (.r2 rfl (.cell .g2 .k0 (.agg isAgg86 sizeOf86 rfl rfl)) (.tmp .g0)) trivial (Ls.of .nil) .nil
  · rw [if_neg (ne_true_of_eq_false c7)] at h
    refine .skip <| .then <| .seq <| .reg rfl <| .op (V.ld (v := Ag (purse_Book.cs r4.1)) .g1 .k0 (.agg isAgg86 sizeOf86 rfl rfl)) rfl <| .opp (P.mov .t6) rfl <| .opp (P.mov .t7) rfl <| .op (V.ld (v := Ag (api_Wide.cs a4)) .t6 .k2 (.agg isAgg77 sizeOf77 rfl rfl)) rfl ?_
    obtain ⟨r8, hr9, h⟩ := bnd_eq h
    refine .opg (G.call call324 (.cons .t3 (.cons .t2 (.cons .t1 (.cons .t0 .nil)))) (S_purse_Book_Give r4.1 a2 a3 a4 r8 hr9) .nil .nil (fun _ _ => rfl) (fun _ _ => rfl) rfl) rfl fun _ _ => .opp (P.mov .t0) rfl <| .opp (P.ext (v := Ag (purse_Book.cs r8.1)) .g0 rfl) rfl <| .opp (P.ext (v := N r8.2) .t1 rfl) rfl <| .opg (G.str .t1 .g2 .k0 (.mk (cs' := (purse_Book.cs r8.1)) sizeOf86 rfl rfl rfl rfl)) rfl fun _ _ => .drop .k1 <| .opp (P.asg .t0) rfl <| .nil <| .then <| .seq <| .seq <| .reg rfl ?_
    refine .opp (P.mov .g0) rfl <| .opp (P.bin .t0 .k .neq) rfl <| .nil <| .then <| .cond .t0 (fun c10 => ?_) (fun c10 => ?_)
    · rw [if_pos c10] at h
      refine .seq <| .reg rfl <| .op (V.ld (v := Ag (purse_Book.cs a0)) .t3 .k3 (.agg isAgg86 sizeOf86 rfl rfl)) rfl <| .opp (P.mov .t1) rfl <| .opg (G.str .t1 .g2 .k1 (.mk (cs' := (purse_Book.cs a0)) sizeOf86 rfl rfl rfl rfl)) rfl fun _ _ => .opp (P.asg .t0) rfl <| .nil <| .then <| .ret <| .thr ?_
      cases h
      exact .finw () (.r2 rfl (.cell .g2 .k0 (.agg isAgg86 sizeOf86 rfl rfl)) (.tmp .g0)) trivial (Ls.of .nil) .nil
    · rw [if_neg (ne_true_of_eq_false c10)] at h
      refine .skip <| .then <| .seq <| .reg rfl <| .op (V.ld (v := Ag (purse_Book.cs r8.1)) .t1 .k0 (.agg isAgg86 sizeOf86 rfl rfl)) rfl <| .opg (G.str .t0 .g1 .k1 (.mk (cs' := (purse_Book.cs r8.1)) sizeOf86 rfl rfl rfl rfl)) rfl fun _ _ => .opp (P.asg .k) rfl <| .nil <| .then <| .ret ?_
      cases h
      exact .finw () (.r2 rfl (.cell .g2 .k0 (.agg isAgg86 sizeOf86 rfl rfl)) (.tmp .g0)) trivial (Ls.of .nil) .nil
attribute [irreducible] purse_Book_Move
noncomputable def escrow_check (a0 : Int) : Option (Px (Unit)) :=
  if (decide (a0 ≠ 0)) = true then (some (.er a0)) else (some ((.ok ())))
set_option maxRecDepth 20000 in
set_option maxHeartbeats 8000000 in
theorem S_escrow_check (a0 : Int) (r : Px (Unit)) (h : escrow_check a0 = some r) :
    SpecX Tryz.prog 260 [N a0] [] [] (fun (r : Unit) (z : Unit) => True) mustCh r (fun r z => Tu []) (fun r z M =>  M) (fun r z M =>  M) := by
  refine .of func260 rfl ntmps260 rfl fun w0 D0 G0 => ?_
  unfold escrow_check at h
  refine .seq <| .reg rfl <| .opp (P.mov .g0) rfl <| .opp (P.bin .t0 .k .neq) rfl <| .nil <| .then <| .cond .t0 (fun c1 => ?_) (fun c1 => ?_)
  · rw [if_pos c1] at h
    refine .reg rfl <| .opp (P.mov .t0) rfl <| .opp (P.bld (v := Ag (escrow_must.cs ⟨a0⟩)) (.cons .t0 .nil) (bld_run zeroValue316 runUnderlying316 pl_316 (by kernel_rfl))) rfl <| .opp (P.mki .t0 runUnderlying316) rfl <| .opg (G.pan .t0 ?_) rfl fun _ h_ => h_.elim
    cases h
    exact .xer rfl
  · rw [if_neg (ne_true_of_eq_false c1)] at h
    refine .skip ?_
    cases h
    exact .xokn <| .finwn () (.r0 rfl) trivial (Ls.of .nil) .nil
attribute [irreducible] escrow_check
noncomputable def escrow_take_int (a0 : purse_Book) (a1 : Int) (a2 : Int) (a3 : api_Wide) : Option (Px (purse_Book)) :=
  Option.bind (purse_Book_Take a0 a1 a2 a3) fun r2 => pxe (escrow_check r2.2) (fun e7 => some (.er e7)) fun r5 => some (.ok r2.1)
set_option maxRecDepth 20000 in
set_option maxHeartbeats 8000000 in
theorem S_escrow_take_int (b00 o00 : Nat) (T00 : TypeId) (pre00 post00 : List Value) (ho00 : pre00.length = o00) (a0 : purse_Book) (a1 : Int) (a2 : Int) (a3 : api_Wide) (r : Px (purse_Book)) (h : escrow_take_int a0 a1 a2 a3 = some r) :
    SpecX Tryz.prog 325 [pt b00 o00, N a1, N a2, Ag (api_Wide.cs a3)] [blk b00 T00 (pre00 ++ (purse_Book.cs a0) ++ post00)] [] (fun (r : purse_Book) (z : Unit) => True) mustCh r (fun r z => Tu []) (fun r z M => blk b00 T00 (pre00 ++ (purse_Book.cs r) ++ post00) ::  M) (fun r z M =>  M) := by
  refine .of func325 rfl ntmps325 rfl fun w0 D0 G0 => ?_
  unfold escrow_take_int at h
  refine .seq <| .reg rfl <| .opx (X.box (cs := (api_Wide.cs a3)) .t3 rfl) rfl fun b1 => .nil <| .then <| .seq ?_
  obtain ⟨r2, hr3, h⟩ := bnd_eq h
  refine .dcut (γ := Nat) (φ := fun _ => True) (E1 := fun x_ => [(9, N r2.2), (8, pt x_ 0), (0, pt b00 o00)]) (L1 := fun x_ => [blk x_ 86 (purse_Book.cs r2.1), blk b1 77 (api_Wide.cs a3), blk b00 T00 (pre00 ++ (purse_Book.cs a0) ++ post00)]) (R1 := fun x_ => []) ?_ (fun b4 _ => ?_)
  · refine .draw 13 (.on 0 .pu (.on 1 .pu (.on 3 .pu (.on 4 .pu (.on 2 .ld (.on 5 .ld (.fk 6 10 (.on 7 .pu (.on 8 .pu (.on 9 .pu (.on 10 .go (.on 11 .go (.on 12 .go .nl)))))) (.on 6 .go (.on 7 .pu (.on 8 .pu (.on 9 .pu (.on 11 .go (.on 12 .go .nl))))))))))))) follows_mixed (.thn (.thn .bodx)) (by kernel_rfl) <| .dpu rfl (.n rfl) (P.mov .g1) rfl rfl <| .dpu rfl (.n rfl) (P.nilc .t0) rfl rfl <| .dpu rfl (.n rfl) (P.mov .t3) rfl rfl <| .dpu rfl (.n rfl) (P.mov .t4) rfl rfl <| .dld rfl (.n rfl) (V.ld (v := Ag (purse_Book.cs a0)) .t2 .k1 (LdV.mid0 ho00 (.agg isAgg86 sizeOf86 rfl rfl))) (fun _ h => h) rfl rfl <| .dld rfl (.n rfl) (V.ld (v := Ag (api_Wide.cs a3)) .t3 .k0 (.agg isAgg77 sizeOf77 rfl rfl)) (fun _ h => h) rfl rfl <| .dfk ?_ ?_
    · exact .dgo rfl (.n rfl) (G.call call131 (.cons .t1 (.cons .t2 (.cons .t1 (.cons .t0 .nil)))) (S_purse_Book_Take a0 a1 a2 a3 r2 hr3) .nil .nil (fun _ _ => rfl) (fun _ _ => rfl) rfl) (.inr fun _ _ _ h => h) fun _ _ => .dpu rfl (.n rfl) (P.mov .t0) rfl rfl <| .dpu rfl (.n rfl) (P.ext (v := Ag (purse_Book.cs r2.1)) .g0 rfl) rfl rfl <| .dpu rfl (.n rfl) (P.ext (v := N r2.2) .t1 rfl) rfl rfl <| .dgo rfl (.n rfl) (OpX.g (X.alc (cs := (purse_Book.cs ⟨⟨⟨0, 0, 0, 0⟩, ⟨0, 0, 0, 0⟩⟩, ⟨⟨0, 0, 0, 0⟩, ⟨0, 0, 0, 0⟩⟩, ⟨⟨0, 0, 0, 0⟩, ⟨0, 0, 0, 0⟩⟩, ⟨⟨0, 0, 0, 0⟩, ⟨0, 0, 0, 0⟩⟩, ⟨⟨0, 0, 0, 0⟩, ⟨0, 0, 0, 0⟩⟩, ⟨⟨0, 0, 0, 0⟩, ⟨0, 0, 0, 0⟩⟩, ⟨⟨0, 0, 0, 0⟩, ⟨0, 0, 0, 0⟩⟩, ⟨⟨0, 0, 0, 0⟩, ⟨0, 0, 0, 0⟩⟩⟩)) zeroValue86 rfl) rfl) (.inr fun _ _ _ h => (h.imp (Ls.of (.cons .k1 (.cons .k1 .nil)))).ro Rs.nil) fun b4 _ => .dgo rfl (.n rfl) (G.str .t2 .g0 .k0 (.mk (cs' := (purse_Book.cs r2.1)) sizeOf86 rfl rfl rfl rfl)) (.inr fun _ _ _ h => (h.imp (Ls.of (.cons .k1 (.cons .k1 .nil)))).ro Rs.nil) fun _ _ => .dgo rfl (.n rfl) (OpV.g (OpP.toV (P.asg .t1)) rfl) (.inr fun _ _ _ h => (h.imp (Ls.of (.cons .k1 (.cons .k1 .nil)))).ro Rs.nil) fun _ _ => .dnil <| .dst b4 trivial (.cons Mm.m0 (.cons Mm.m1 (.cons Mm.m2 .nil))) (Ls.of (.cons .k0 (.cons .k0 (.cons .k0 .nil)))) .nil
    · exact .dgo rfl (.n rfl) (OpX.g (X.alc (cs := (purse_Book.cs ⟨⟨⟨0, 0, 0, 0⟩, ⟨0, 0, 0, 0⟩⟩, ⟨⟨0, 0, 0, 0⟩, ⟨0, 0, 0, 0⟩⟩, ⟨⟨0, 0, 0, 0⟩, ⟨0, 0, 0, 0⟩⟩, ⟨⟨0, 0, 0, 0⟩, ⟨0, 0, 0, 0⟩⟩, ⟨⟨0, 0, 0, 0⟩, ⟨0, 0, 0, 0⟩⟩, ⟨⟨0, 0, 0, 0⟩, ⟨0, 0, 0, 0⟩⟩, ⟨⟨0, 0, 0, 0⟩, ⟨0, 0, 0, 0⟩⟩, ⟨⟨0, 0, 0, 0⟩, ⟨0, 0, 0, 0⟩⟩⟩)) zeroValue86 rfl) rfl) (.inr fun _ _ _ h => (h.imp (Ls.of (.cons .k1 (.cons .k1 .nil)))).ro Rs.nil) fun b4 _ => .dgo rfl (.n rfl) (G.call call131 (.cons .t2 (.cons .t3 (.cons .t2 (.cons .t1 .nil)))) (S_purse_Book_Take a0 a1 a2 a3 r2 hr3) .nil .nil (fun _ _ => rfl) (fun _ _ => rfl) rfl) (.inr fun _ _ _ h => (h.imp (Ls.of (.cons .k1 (.cons .k1 .nil)))).ro Rs.nil) fun _ _ => .dpu rfl (.n rfl) (P.mov .t0) rfl rfl <| .dpu rfl (.n rfl) (P.ext (v := Ag (purse_Book.cs r2.1)) .g0 rfl) rfl rfl <| .dpu rfl (.n rfl) (P.ext (v := N r2.2) .t1 rfl) rfl rfl <| .dgo rfl (.n rfl) (G.str .t1 .g1 .k0 (.mk (cs' := (purse_Book.cs r2.1)) sizeOf86 rfl rfl rfl rfl)) (.inr fun _ _ _ h => (h.imp (Ls.of (.cons .k1 (.cons .k1 .nil)))).ro Rs.nil) fun _ _ => .dgo rfl (.n rfl) (OpV.g (OpP.toV (P.asg .t0)) rfl) (.inr fun _ _ _ h => (h.imp (Ls.of (.cons .k1 (.cons .k1 .nil)))).ro Rs.nil) fun _ _ => .dnil <| .dst b4 trivial (.cons Mm.m0 (.cons Mm.m1 (.cons Mm.m2 .nil))) (Ls.of (.cons .k0 (.cons .k0 (.cons .k0 .nil)))) .nil
  · refine .then <| .seq <| .reg rfl <| .opp (P.mov .t0) rfl ?_
    rcases pxe_eq h with ⟨e7, hr6, h⟩ | ⟨r5, hr6, h⟩
    · refine .opg (G.callx call260 (.cons .t0 .nil) (S_escrow_check r2.2 (.er e7) hr6).er .nil .nil ?_) rfl fun _ h_ => h_.elim
      refine .thp ?_
      cases h
      exact .xer rfl
    · refine .opg (G.call call260 (.cons .t0 .nil) (S_escrow_check r2.2 (.ok r5) hr6).ok .nil .nil (fun _ _ => rfl) (fun _ _ => rfl) rfl) rfl fun _ _ => .drop .k0 <| .nil <| .then <| .reg rfl <| .opp (P.mov .t1) rfl <| .op (V.ld (v := Ag (purse_Book.cs r2.1)) .t1 .k0 (.agg isAgg86 sizeOf86 rfl rfl)) rfl <| .opp (P.nilc .t1) rfl <| .opg (G.str .t1 .t0 .k2 (StV.mid0 ho00 (.mk (cs' := (purse_Book.cs r2.1)) sizeOf86 rfl rfl rfl rfl))) rfl fun _ _ => .nil ?_
      cases h
      exact .xokn <| .finwn () (.r0 rfl) trivial (Ls.of (.cons .k0 .nil)) .nil
attribute [irreducible] escrow_take_int
noncomputable def escrow_put_int (a0 : purse_Book) (a1 : Int) (a2 : Int) (a3 : api_Wide) : Option (Px (purse_Book)) :=
  Option.bind (purse_Book_Give a0 a1 a2 a3) fun r2 => pxe (escrow_check r2.2) (fun e7 => some (.er e7)) fun r5 => some (.ok r2.1)
set_option maxRecDepth 20000 in
set_option maxHeartbeats 8000000 in
theorem S_escrow_put_int (b00 o00 : Nat) (T00 : TypeId) (pre00 post00 : List Value) (ho00 : pre00.length = o00) (a0 : purse_Book) (a1 : Int) (a2 : Int) (a3 : api_Wide) (r : Px (purse_Book)) (h : escrow_put_int a0 a1 a2 a3 = some r) :
    SpecX Tryz.prog 326 [pt b00 o00, N a1, N a2, Ag (api_Wide.cs a3)] [blk b00 T00 (pre00 ++ (purse_Book.cs a0) ++ post00)] [] (fun (r : purse_Book) (z : Unit) => True) mustCh r (fun r z => Tu []) (fun r z M => blk b00 T00 (pre00 ++ (purse_Book.cs r) ++ post00) ::  M) (fun r z M =>  M) := by
  refine .of func326 rfl ntmps326 rfl fun w0 D0 G0 => ?_
  unfold escrow_put_int at h
  refine .seq <| .reg rfl <| .opx (X.box (cs := (api_Wide.cs a3)) .t3 rfl) rfl fun b1 => .nil <| .then <| .seq ?_
  obtain ⟨r2, hr3, h⟩ := bnd_eq h
  refine .dcut (γ := Nat) (φ := fun _ => True) (E1 := fun x_ => [(9, N r2.2), (8, pt x_ 0), (0, pt b00 o00)]) (L1 := fun x_ => [blk x_ 86 (purse_Book.cs r2.1), blk b1 77 (api_Wide.cs a3), blk b00 T00 (pre00 ++ (purse_Book.cs a0) ++ post00)]) (R1 := fun x_ => []) ?_ (fun b4 _ => ?_)
  · refine .draw 13 (.on 0 .pu (.on 1 .pu (.on 3 .pu (.on 4 .pu (.on 2 .ld (.on 5 .ld (.fk 6 10 (.on 7 .pu (.on 8 .pu (.on 9 .pu (.on 10 .go (.on 11 .go (.on 12 .go .nl)))))) (.on 6 .go (.on 7 .pu (.on 8 .pu (.on 9 .pu (.on 11 .go (.on 12 .go .nl))))))))))))) follows_mixed (.thn (.thn .bodx)) (by kernel_rfl) <| .dpu rfl (.n rfl) (P.mov .g1) rfl rfl <| .dpu rfl (.n rfl) (P.nilc .t0) rfl rfl <| .dpu rfl (.n rfl) (P.mov .t3) rfl rfl <| .dpu rfl (.n rfl) (P.mov .t4) rfl rfl <| .dld rfl (.n rfl) (V.ld (v := Ag (purse_Book.cs a0)) .t2 .k1 (LdV.mid0 ho00 (.agg isAgg86 sizeOf86 rfl rfl))) (fun _ h => h) rfl rfl <| .dld rfl (.n rfl) (V.ld (v := Ag (api_Wide.cs a3)) .t3 .k0 (.agg isAgg77 sizeOf77 rfl rfl)) (fun _ h => h) rfl rfl <| .dfk ?_ ?_
    · exact .dgo rfl (.n rfl) (G.call call324 (.cons .t1 (.cons .t2 (.cons .t1 (.cons .t0 .nil)))) (S_purse_Book_Give a0 a1 a2 a3 r2 hr3) .nil .nil (fun _ _ => rfl) (fun _ _ => rfl) rfl) (.inr fun _ _ _ h => h) fun _ _ => .dpu rfl (.n rfl) (P.mov .t0) rfl rfl <| .dpu rfl (.n rfl) (P.ext (v := Ag (purse_Book.cs r2.1)) .g0 rfl) rfl rfl <| .dpu rfl (.n rfl) (P.ext (v := N r2.2) .t1 rfl) rfl rfl <| .dgo rfl (.n rfl) (OpX.g (X.alc (cs := (purse_Book.cs ⟨⟨⟨0, 0, 0, 0⟩, ⟨0, 0, 0, 0⟩⟩, ⟨⟨0, 0, 0, 0⟩, ⟨0, 0, 0, 0⟩⟩, ⟨⟨0, 0, 0, 0⟩, ⟨0, 0, 0, 0⟩⟩, ⟨⟨0, 0, 0, 0⟩, ⟨0, 0, 0, 0⟩⟩, ⟨⟨0, 0, 0, 0⟩, ⟨0, 0, 0, 0⟩⟩, ⟨⟨0, 0, 0, 0⟩, ⟨0, 0, 0, 0⟩⟩, ⟨⟨0, 0, 0, 0⟩, ⟨0, 0, 0, 0⟩⟩, ⟨⟨0, 0, 0, 0⟩, ⟨0, 0, 0, 0⟩⟩⟩)) zeroValue86 rfl) rfl) (.inr fun _ _ _ h => (h.imp (Ls.of (.cons .k1 (.cons .k1 .nil)))).ro Rs.nil) fun b4 _ => .dgo rfl (.n rfl) (G.str .t2 .g0 .k0 (.mk (cs' := (purse_Book.cs r2.1)) sizeOf86 rfl rfl rfl rfl)) (.inr fun _ _ _ h => (h.imp (Ls.of (.cons .k1 (.cons .k1 .nil)))).ro Rs.nil) fun _ _ => .dgo rfl (.n rfl) (OpV.g (OpP.toV (P.asg .t1)) rfl) (.inr fun _ _ _ h => (h.imp (Ls.of (.cons .k1 (.cons .k1 .nil)))).ro Rs.nil) fun _ _ => .dnil <| .dst b4 trivial (.cons Mm.m0 (.cons Mm.m1 (.cons Mm.m2 .nil))) (Ls.of (.cons .k0 (.cons .k0 (.cons .k0 .nil)))) .nil
    · exact .dgo rfl (.n rfl) (OpX.g (X.alc (cs := (purse_Book.cs ⟨⟨⟨0, 0, 0, 0⟩, ⟨0, 0, 0, 0⟩⟩, ⟨⟨0, 0, 0, 0⟩, ⟨0, 0, 0, 0⟩⟩, ⟨⟨0, 0, 0, 0⟩, ⟨0, 0, 0, 0⟩⟩, ⟨⟨0, 0, 0, 0⟩, ⟨0, 0, 0, 0⟩⟩, ⟨⟨0, 0, 0, 0⟩, ⟨0, 0, 0, 0⟩⟩, ⟨⟨0, 0, 0, 0⟩, ⟨0, 0, 0, 0⟩⟩, ⟨⟨0, 0, 0, 0⟩, ⟨0, 0, 0, 0⟩⟩, ⟨⟨0, 0, 0, 0⟩, ⟨0, 0, 0, 0⟩⟩⟩)) zeroValue86 rfl) rfl) (.inr fun _ _ _ h => (h.imp (Ls.of (.cons .k1 (.cons .k1 .nil)))).ro Rs.nil) fun b4 _ => .dgo rfl (.n rfl) (G.call call324 (.cons .t2 (.cons .t3 (.cons .t2 (.cons .t1 .nil)))) (S_purse_Book_Give a0 a1 a2 a3 r2 hr3) .nil .nil (fun _ _ => rfl) (fun _ _ => rfl) rfl) (.inr fun _ _ _ h => (h.imp (Ls.of (.cons .k1 (.cons .k1 .nil)))).ro Rs.nil) fun _ _ => .dpu rfl (.n rfl) (P.mov .t0) rfl rfl <| .dpu rfl (.n rfl) (P.ext (v := Ag (purse_Book.cs r2.1)) .g0 rfl) rfl rfl <| .dpu rfl (.n rfl) (P.ext (v := N r2.2) .t1 rfl) rfl rfl <| .dgo rfl (.n rfl) (G.str .t1 .g1 .k0 (.mk (cs' := (purse_Book.cs r2.1)) sizeOf86 rfl rfl rfl rfl)) (.inr fun _ _ _ h => (h.imp (Ls.of (.cons .k1 (.cons .k1 .nil)))).ro Rs.nil) fun _ _ => .dgo rfl (.n rfl) (OpV.g (OpP.toV (P.asg .t0)) rfl) (.inr fun _ _ _ h => (h.imp (Ls.of (.cons .k1 (.cons .k1 .nil)))).ro Rs.nil) fun _ _ => .dnil <| .dst b4 trivial (.cons Mm.m0 (.cons Mm.m1 (.cons Mm.m2 .nil))) (Ls.of (.cons .k0 (.cons .k0 (.cons .k0 .nil)))) .nil
  · refine .then <| .seq <| .reg rfl <| .opp (P.mov .t0) rfl ?_
    rcases pxe_eq h with ⟨e7, hr6, h⟩ | ⟨r5, hr6, h⟩
    · refine .opg (G.callx call260 (.cons .t0 .nil) (S_escrow_check r2.2 (.er e7) hr6).er .nil .nil ?_) rfl fun _ h_ => h_.elim
      refine .thp ?_
      cases h
      exact .xer rfl
    · refine .opg (G.call call260 (.cons .t0 .nil) (S_escrow_check r2.2 (.ok r5) hr6).ok .nil .nil (fun _ _ => rfl) (fun _ _ => rfl) rfl) rfl fun _ _ => .drop .k0 <| .nil <| .then <| .reg rfl <| .opp (P.mov .t1) rfl <| .op (V.ld (v := Ag (purse_Book.cs r2.1)) .t1 .k0 (.agg isAgg86 sizeOf86 rfl rfl)) rfl <| .opp (P.nilc .t1) rfl <| .opg (G.str .t1 .t0 .k2 (StV.mid0 ho00 (.mk (cs' := (purse_Book.cs r2.1)) sizeOf86 rfl rfl rfl rfl))) rfl fun _ _ => .nil ?_
      cases h
      exact .xokn <| .finwn () (.r0 rfl) trivial (Ls.of (.cons .k0 .nil)) .nil
attribute [irreducible] escrow_put_int
noncomputable def escrow_need (a0 : Bool) (a1 : Int) : Option (Px (Unit)) :=
  if (!a0) = true then (some (.er a1)) else (some ((.ok ())))
set_option maxRecDepth 20000 in
set_option maxHeartbeats 8000000 in
theorem S_escrow_need (a0 : Bool) (a1 : Int) (r : Px (Unit)) (h : escrow_need a0 a1 = some r) :
    SpecX Tryz.prog 328 [Bo a0, N a1] [] [] (fun (r : Unit) (z : Unit) => True) mustCh r (fun r z => Tu []) (fun r z M =>  M) (fun r z M =>  M) := by
  refine .of func328 rfl ntmps328 rfl fun w0 D0 G0 => ?_
  unfold escrow_need at h
  refine .seq <| .reg rfl <| .opp (P.mov .t0) rfl <| .opp (P.not .t0) rfl <| .nil <| .then <| .cond .t0 (fun c1 => ?_) (fun c1 => ?_)
  · rw [if_pos c1] at h
    refine .reg rfl <| .opp (P.mov .t0) rfl <| .opp (P.bld (v := Ag (escrow_must.cs ⟨a1⟩)) (.cons .t0 .nil) (bld_run zeroValue316 runUnderlying316 pl_316 (by kernel_rfl))) rfl <| .opp (P.mki .t0 runUnderlying316) rfl <| .opg (G.pan .t0 ?_) rfl fun _ h_ => h_.elim
    cases h
    exact .xer rfl
  · rw [if_neg (ne_true_of_eq_false c1)] at h
    refine .skip ?_
    cases h
    exact .xokn <| .finwn () (.r0 rfl) trivial (Ls.of .nil) .nil
attribute [irreducible] escrow_need
noncomputable def escrow_State_hold (a0 : escrow_State) (a1 : Int) (a2 : api_Wide) : Option (Px (escrow_State)) :=
  Option.bind (at_ (A2_api_Wide.list a0.Held) a1) fun (x2 : api_Wide) => pxe (escrow_need (wide_Add x2 a2).2 38) (fun e9 => some (.er e9)) fun r7 => Option.bind (at_ (A2_api_Wide.list a0.Held) a1) fun (x10 : api_Wide) => some ((.ok ((⟨a0.Side, a0.Time, a0.Purse, a0.Vault, a0.Nonces, A2_api_Wide.set a0.Held (a1).toNat (wide_Add x2 a2).1, a0.Burnt, a0.Locks⟩ : escrow_State))))
set_option maxRecDepth 20000 in
set_option maxHeartbeats 8000000 in
theorem S_escrow_State_hold (b00 : Nat) (a0 : escrow_State) (z00a : Value) (a1 : Int) (a2 : api_Wide) (r : Px (escrow_State)) (h : escrow_State_hold a0 a1 a2 = some r) :
    SpecX Tryz.prog 327 [pt b00 0, N a1, Ag (api_Wide.cs a2)] [blk b00 90 (escrow_State.cs a0 z00a), lst 241 3 z00a (a0.Locks.map escrow_Lock.cs)] [] (fun (r : escrow_State) (z : Unit) => True) mustCh r (fun r z => Tu []) (fun r z M => blk b00 90 (escrow_State.cs r z00a) :: lst 241 3 z00a (r.Locks.map escrow_Lock.cs) ::  M) (fun r z M =>  M) := by
  refine .of func327 rfl ntmps327 rfl fun w0 D0 G0 => ?_
  unfold escrow_State_hold at h
  refine .seq <| .reg rfl <| .opx (X.box (cs := (api_Wide.cs a2)) .t2 rfl) rfl fun b1 => .nil <| .then <| .seq ?_
  obtain ⟨x2, hx3, h⟩ := bnd_eq h
  obtain ⟨i4, hi5, hx3⟩ := at_eq hx3
  have hi5_ : (a1).toNat = i4 := by rw [hi5]; rfl
  refine .dcut (γ := Nat) (φ := fun _ => True) (E1 := fun x_ => [(7, Bo (wide_Add x2 a2).2), (6, pt x_ 0), (0, pt b00 0), (1, N a1)]) (L1 := fun x_ => [blk x_ 77 (api_Wide.cs (wide_Add x2 a2).1), blk b1 77 (api_Wide.cs a2), blk b00 90 (escrow_State.cs a0 z00a), lst 241 3 z00a (a0.Locks.map escrow_Lock.cs)]) (R1 := fun x_ => []) ?_ (fun b6 _ => ?_)
  · refine .draw 14 (.on 0 .pu (.on 1 .pu (.on 2 .pu (.on 3 .pu (.on 4 .pu (.on 5 .ld (.on 6 .ld (.fk 7 11 (.on 8 .pu (.on 9 .pu (.on 10 .pu (.on 11 .go (.on 12 .go (.on 13 .go .nl)))))) (.on 7 .go (.on 8 .pu (.on 9 .pu (.on 10 .pu (.on 12 .go (.on 13 .go .nl)))))))))))))) follows_mixed (.thn (.thn .bodx)) (by kernel_rfl) <| .dpu rfl (.n rfl) (P.mov .g1) rfl rfl <| .dpu rfl (.n rfl) (P.mov .g3) rfl rfl <| .dpu rfl (.n rfl) (P.nilc .t1) rfl rfl <| .dpu rfl (.n rfl) (P.fa .t0 fa_90_5 rfl) rfl rfl <| .dpu rfl (.n rfl) (P.iad (i := i4) (off' := (138 + i4 * 4)) .t1 hi5 .t0 runUnderlying84 sizeOf77 (lt_of_get hx3) rfl) rfl rfl <| .dld rfl (.n rfl) (V.ld (v := Ag (api_Wide.cs x2)) .t0 .k1 (by rcases i4 with _ | _ | _ <;> first | (obtain rfl := Option.some.inj hx3; exact LdV.agg isAgg77 sizeOf77 rfl rfl) | (cases hx3; done))) (fun _ h => h) rfl rfl <| .dld rfl (.n rfl) (V.ld (v := Ag (api_Wide.cs a2)) .t1 .k0 (.agg isAgg77 sizeOf77 rfl rfl)) (fun _ h => h) rfl rfl <| .dfk ?_ ?_
    · exact .dgo rfl (.n rfl) (G.call call132 (.cons .t1 (.cons .t0 .nil)) (S_wide_Add x2 a2 _ rfl) .nil .nil (fun _ _ => rfl) (fun _ _ => rfl) rfl) (.inr fun _ _ _ h => h) fun _ _ => .dpu rfl (.n rfl) (P.mov .t0) rfl rfl <| .dpu rfl (.n rfl) (P.ext (v := Ag (api_Wide.cs (wide_Add x2 a2).1)) .g0 rfl) rfl rfl <| .dpu rfl (.n rfl) (P.ext (v := Bo (wide_Add x2 a2).2) .t1 rfl) rfl rfl <| .dgo rfl (.n rfl) (OpX.g (X.alc (cs := (api_Wide.cs ⟨0, 0, 0, 0⟩)) zeroValue77 rfl) rfl) (.inr fun _ _ _ h => (h.imp (Ls.of (.cons .k1 (.cons .k1 (.cons .k1 .nil))))).ro Rs.nil) fun b6 _ => .dgo rfl (.n rfl) (G.str .t2 .g0 .k0 (.mk (cs' := (api_Wide.cs (wide_Add x2 a2).1)) sizeOf77 rfl rfl rfl rfl)) (.inr fun _ _ _ h => (h.imp (Ls.of (.cons .k1 (.cons .k1 (.cons .k1 .nil))))).ro Rs.nil) fun _ _ => .dgo rfl (.n rfl) (OpV.g (OpP.toV (P.asg .t1)) rfl) (.inr fun _ _ _ h => (h.imp (Ls.of (.cons .k1 (.cons .k1 (.cons .k1 .nil))))).ro Rs.nil) fun _ _ => .dnil <| .dst b6 trivial (.cons Mm.m0 (.cons Mm.m1 (.cons Mm.m2 (.cons Mm.m3 .nil)))) (Ls.of (.cons .k0 (.cons .k0 (.cons .k0 (.cons .k0 .nil))))) .nil
    · exact .dgo rfl (.n rfl) (OpX.g (X.alc (cs := (api_Wide.cs ⟨0, 0, 0, 0⟩)) zeroValue77 rfl) rfl) (.inr fun _ _ _ h => (h.imp (Ls.of (.cons .k1 (.cons .k1 (.cons .k1 .nil))))).ro Rs.nil) fun b6 _ => .dgo rfl (.n rfl) (G.call call132 (.cons .t2 (.cons .t1 .nil)) (S_wide_Add x2 a2 _ rfl) .nil .nil (fun _ _ => rfl) (fun _ _ => rfl) rfl) (.inr fun _ _ _ h => (h.imp (Ls.of (.cons .k1 (.cons .k1 (.cons .k1 .nil))))).ro Rs.nil) fun _ _ => .dpu rfl (.n rfl) (P.mov .t0) rfl rfl <| .dpu rfl (.n rfl) (P.ext (v := Ag (api_Wide.cs (wide_Add x2 a2).1)) .g0 rfl) rfl rfl <| .dpu rfl (.n rfl) (P.ext (v := Bo (wide_Add x2 a2).2) .t1 rfl) rfl rfl <| .dgo rfl (.n rfl) (G.str .t1 .g1 .k0 (.mk (cs' := (api_Wide.cs (wide_Add x2 a2).1)) sizeOf77 rfl rfl rfl rfl)) (.inr fun _ _ _ h => (h.imp (Ls.of (.cons .k1 (.cons .k1 (.cons .k1 .nil))))).ro Rs.nil) fun _ _ => .dgo rfl (.n rfl) (OpV.g (OpP.toV (P.asg .t0)) rfl) (.inr fun _ _ _ h => (h.imp (Ls.of (.cons .k1 (.cons .k1 (.cons .k1 .nil))))).ro Rs.nil) fun _ _ => .dnil <| .dst b6 trivial (.cons Mm.m0 (.cons Mm.m1 (.cons Mm.m2 (.cons Mm.m3 .nil)))) (Ls.of (.cons .k0 (.cons .k0 (.cons .k0 (.cons .k0 .nil))))) .nil
  · refine .then <| .seq <| .reg rfl <| .opp (P.mov .t0) rfl ?_
    rcases pxe_eq h with ⟨e9, hr8, h⟩ | ⟨r7, hr8, h⟩
    · refine .opg (G.callx call328 (.cons .t0 (.cons .k .nil)) (S_escrow_need (wide_Add x2 a2).2 38 (.er e9) hr8).er .nil .nil ?_) rfl fun _ h_ => h_.elim
      refine .thp ?_
      cases h
      exact .xer rfl
    · refine .opg (G.call call328 (.cons .t0 (.cons .k .nil)) (S_escrow_need (wide_Add x2 a2).2 38 (.ok r7) hr8).ok .nil .nil (fun _ _ => rfl) (fun _ _ => rfl) rfl) rfl fun _ _ => .drop .k0 <| .nil <| .then <| .drawl [blk b6 77 (api_Wide.cs (wide_Add x2 a2).1), blk b1 77 (api_Wide.cs a2), lst 241 3 z00a (a0.Locks.map escrow_Lock.cs)] [] (Ls.of (.cons .k0 (.cons .k0 (.cons .k1 .nil)))) Rs.nil 7 (.on 0 .pu (.on 1 .pu (.on 3 .pu (.on 4 .pu (.on 2 .ld (.on 5 .pu (.on 6 .go .nl))))))) follows_mixed .bodx (by kernel_rfl) <| .dpu rfl (.n rfl) (P.mov .t1) rfl rfl <| .dpu rfl (.n rfl) (P.mov .t2) rfl rfl <| .dpu rfl (.n rfl) (P.nilc .t1) rfl rfl <| .dpu rfl (.n rfl) (P.fa .t0 fa_90_5 rfl) rfl rfl <| .dld rfl (.n rfl) (V.ld (v := Ag (api_Wide.cs (wide_Add x2 a2).1)) .t2 .k0 (.agg isAgg77 sizeOf77 rfl rfl)) (fun _ h => (h.imp (Ls.of (.cons .k0 (.cons .k0 (.cons .k1 .nil))))).ro Rs.nil) rfl rfl ?_
      obtain ⟨x10, hx11, h⟩ := bnd_eq h
      obtain ⟨i12, hi13, hx11⟩ := at_eq hx11
      have hi13_ : (a1).toNat = i12 := by rw [hi13]; rfl
      refine .dpu rfl (.n rfl) (P.iad (i := i12) (off' := (138 + i12 * 4)) .t2 hi13 .t1 runUnderlying84 sizeOf77 (lt_of_get hx11) rfl) rfl rfl <| .dgo rfl (.n rfl) (G.str (cs' := (escrow_State.cs ⟨a0.Side, a0.Time, a0.Purse, a0.Vault, a0.Nonces, A2_api_Wide.set a0.Held i12 (wide_Add x2 a2).1, a0.Burnt, a0.Locks⟩ z00a)) .t1 .t0 .k2 (by rcases i12 with _ | _ | _ <;> first | (obtain rfl := Option.some.inj hx11; exact StV.mk sizeOf77 rfl rfl rfl rfl) | (cases hx11; done))) (.inr fun _ _ _ h => (h.imp (Ls.of (.cons .k1 (.cons .k1 (.cons .k1 .nil))))).ro Rs.nil) fun _ _ => .conseq .k0 (q := blk b00 90 (escrow_State.cs ⟨a0.Side, a0.Time, a0.Purse, a0.Vault, a0.Nonces, A2_api_Wide.set a0.Held (a1).toNat (wide_Add x2 a2).1, a0.Burnt, a0.Locks⟩ z00a)) (fun _ h_ => by rw [hi13_]; first | exact h_ | (simp only [hi13_] at h_; exact h_)) <| .dnil ?_
      cases h
      exact .xokn <| .finwn () (.r0 rfl) trivial (Ls.of (.cons .k0 (.cons .k2 .nil))) .nil
attribute [irreducible] escrow_State_hold
noncomputable def escrow_State_store (a0 : escrow_State) (a1 : api_Tx) : Option (Px (escrow_State)) :=
  pxe (escrow_take_int a0.Purse a1.From a1.Asset a1.Amount) (fun e4 => some (.er e4)) fun r2 => pxe (escrow_put_int a0.Vault a1.Inv.Router a1.Asset a1.Amount) (fun e7 => some (.er e7)) fun r5 => pxe (escrow_State_hold (⟨a0.Side, a0.Time, r2, r5, a0.Nonces, a0.Held, a0.Burnt, a0.Locks⟩ : escrow_State) a1.Asset a1.Amount) (fun e10 => some (.er e10)) fun r8 => some (.ok r8)
set_option maxRecDepth 20000 in
set_option maxHeartbeats 8000000 in
theorem S_escrow_State_store (b00 : Nat) (a0 : escrow_State) (z00a : Value) (a1 : api_Tx) (r : Px (escrow_State)) (h : escrow_State_store a0 a1 = some r) :
    SpecX Tryz.prog 261 [pt b00 0, Ag (api_Tx.cs a1)] [blk b00 90 (escrow_State.cs a0 z00a), lst 241 3 z00a (a0.Locks.map escrow_Lock.cs)] [] (fun (r : escrow_State) (z : Unit) => True) mustCh r (fun r z => Tu []) (fun r z M => blk b00 90 (escrow_State.cs r z00a) :: lst 241 3 z00a (r.Locks.map escrow_Lock.cs) ::  M) (fun r z M =>  M) := by
  refine .of func261 rfl ntmps261 rfl fun w0 D0 G0 => ?_
  unfold escrow_State_store at h
  refine .seq <| .reg rfl <| .opx (X.box (cs := (api_Tx.cs a1)) .t1 rfl) rfl fun b1 => .nil <| .then <| .seq <| .drawl [blk b1 83 (api_Tx.cs a1), lst 241 3 z00a (a0.Locks.map escrow_Lock.cs)] [] (Ls.of (.cons .k0 (.cons .k1 .nil))) Rs.nil 10 (.on 0 .pu (.on 1 .pu (.on 2 .pu (.on 3 .pu (.on 5 .pu (.on 7 .pu (.on 4 .ld (.on 6 .ld (.on 8 .ld (.on 9 .go .nl)))))))))) follows_mixed (.thn .bodx) (by kernel_rfl) <| .dpu rfl (.n rfl) (P.mov .g1) rfl rfl <| .dpu rfl (.n rfl) (P.nilc .t0) rfl rfl <| .dpu rfl (.n rfl) (P.fa .t0 fa_90_2 rfl) rfl rfl <| .dpu rfl (.n rfl) (P.fa .g1 fa_83_0 rfl) rfl rfl <| .dpu rfl (.n rfl) (P.fa .g2 fa_83_3 rfl) rfl rfl ?_
  refine .dpu rfl (.n rfl) (P.fa .g3 fa_83_4 rfl) rfl rfl <| .dld rfl (.n rfl) (V.ld (v := N a1.From) .t2 .k0 (.one isAgg3 rfl)) (fun _ h => (h.imp (Ls.of (.cons .k0 (.cons .k1 .nil)))).ro Rs.nil) rfl rfl <| .dld rfl (.n rfl) (V.ld (v := N a1.Asset) .t2 .k0 (.one isAgg3 rfl)) (fun _ h => (h.imp (Ls.of (.cons .k0 (.cons .k1 .nil)))).ro Rs.nil) rfl rfl <| .dld rfl (.n rfl) (V.ld (v := Ag (api_Wide.cs a1.Amount)) .t2 .k0 (.agg isAgg77 sizeOf77 rfl rfl)) (fun _ h => (h.imp (Ls.of (.cons .k0 (.cons .k1 .nil)))).ro Rs.nil) rfl rfl <| .conseq .k1 (q := blk b00 90 ((List.take 2 (escrow_State.cs a0 z00a)) ++ (purse_Book.cs a0.Purse) ++ (List.drop (2 + 64) (escrow_State.cs a0 z00a)))) (fun _ h_ => by exact h_) ?_
  rcases pxe_eq h with ⟨e4, hr3, h⟩ | ⟨r2, hr3, h⟩
  · refine .dgo rfl (.n rfl) (G.callx call325 (.cons .t3 (.cons .t2 (.cons .t1 (.cons .t0 .nil)))) (S_escrow_take_int b00 2 90 (List.take 2 (escrow_State.cs a0 z00a)) (List.drop (2 + 64) (escrow_State.cs a0 z00a)) (by rfl) a0.Purse a1.From a1.Asset a1.Amount (.er e4) hr3).er (.cons .k0 .nil) .nil ?_) (.inr fun _ _ h_ _ => h_.elim) fun _ h_ => h_.elim
    refine .thp ?_
    cases h
    exact .xer rfl
  · refine .dgo rfl (.n rfl) (G.call call325 (.cons .t3 (.cons .t2 (.cons .t1 (.cons .t0 .nil)))) (S_escrow_take_int b00 2 90 (List.take 2 (escrow_State.cs a0 z00a)) (List.drop (2 + 64) (escrow_State.cs a0 z00a)) (by rfl) a0.Purse a1.From a1.Asset a1.Amount (.ok r2) hr3).ok (.cons .k0 .nil) .nil (fun _ _ => rfl) (fun _ _ => rfl) rfl) (.inr fun _ _ _ h => (h.imp (Ls.of (.cons .k1 (.cons .k1 .nil)))).ro Rs.nil) fun _ _ => .conseq .k0 (q := blk b00 90 (escrow_State.cs ⟨a0.Side, a0.Time, r2, a0.Vault, a0.Nonces, a0.Held, a0.Burnt, a0.Locks⟩ z00a)) (fun _ h_ => by exact h_) <| .drop .k0 <| .dnil <| .then <| .seq <| .drawl [blk b1 83 (api_Tx.cs a1), lst 241 3 z00a (a0.Locks.map escrow_Lock.cs)] [] (Ls.of (.cons .k1 (.cons .k1 .nil))) Rs.nil 11 (.on 0 .pu (.on 1 .pu (.on 2 .pu (.on 3 .pu (.on 4 .pu (.on 6 .pu (.on 8 .pu (.on 5 .ld (.on 7 .ld (.on 9 .ld (.on 10 .go .nl))))))))))) follows_mixed (.thn .bodx) (by kernel_rfl) <| .dpu rfl (.n rfl) (P.mov .g1) rfl rfl <| .dpu rfl (.n rfl) (P.nilc .t0) rfl rfl <| .dpu rfl (.n rfl) (P.fa .t0 fa_90_3 rfl) rfl rfl <| .dpu rfl (.n rfl) (P.fa .g1 fa_83_5 rfl) rfl rfl <| .dpu rfl (.n rfl) (P.fa .t0 fa_79_2 rfl) rfl rfl ?_
    refine .dpu rfl (.n rfl) (P.fa .g2 fa_83_3 rfl) rfl rfl <| .dpu rfl (.n rfl) (P.fa .g3 fa_83_4 rfl) rfl rfl <| .dld rfl (.n rfl) (V.ld (v := N a1.Inv.Router) .t2 .k0 (.one isAgg3 rfl)) (fun _ h => (h.imp (Ls.of (.cons .k1 (.cons .k1 .nil)))).ro Rs.nil) rfl rfl <| .dld rfl (.n rfl) (V.ld (v := N a1.Asset) .t2 .k0 (.one isAgg3 rfl)) (fun _ h => (h.imp (Ls.of (.cons .k1 (.cons .k1 .nil)))).ro Rs.nil) rfl rfl <| .dld rfl (.n rfl) (V.ld (v := Ag (api_Wide.cs a1.Amount)) .t2 .k0 (.agg isAgg77 sizeOf77 rfl rfl)) (fun _ h => (h.imp (Ls.of (.cons .k1 (.cons .k1 .nil)))).ro Rs.nil) rfl rfl <| .conseq .k0 (q := blk b00 90 ((List.take 66 (escrow_State.cs ⟨a0.Side, a0.Time, r2, a0.Vault, a0.Nonces, a0.Held, a0.Burnt, a0.Locks⟩ z00a)) ++ (purse_Book.cs a0.Vault) ++ (List.drop (66 + 64) (escrow_State.cs ⟨a0.Side, a0.Time, r2, a0.Vault, a0.Nonces, a0.Held, a0.Burnt, a0.Locks⟩ z00a)))) (fun _ h_ => by exact h_) ?_
    rcases pxe_eq h with ⟨e7, hr6, h⟩ | ⟨r5, hr6, h⟩
    · refine .dgo rfl (.n rfl) (G.callx call326 (.cons .t3 (.cons .t2 (.cons .t1 (.cons .t0 .nil)))) (S_escrow_put_int b00 66 90 (List.take 66 (escrow_State.cs ⟨a0.Side, a0.Time, r2, a0.Vault, a0.Nonces, a0.Held, a0.Burnt, a0.Locks⟩ z00a)) (List.drop (66 + 64) (escrow_State.cs ⟨a0.Side, a0.Time, r2, a0.Vault, a0.Nonces, a0.Held, a0.Burnt, a0.Locks⟩ z00a)) (by rfl) a0.Vault a1.Inv.Router a1.Asset a1.Amount (.er e7) hr6).er (.cons .k0 .nil) .nil ?_) (.inr fun _ _ h_ _ => h_.elim) fun _ h_ => h_.elim
      refine .thp ?_
      cases h
      exact .xer rfl
    · refine .dgo rfl (.n rfl) (G.call call326 (.cons .t3 (.cons .t2 (.cons .t1 (.cons .t0 .nil)))) (S_escrow_put_int b00 66 90 (List.take 66 (escrow_State.cs ⟨a0.Side, a0.Time, r2, a0.Vault, a0.Nonces, a0.Held, a0.Burnt, a0.Locks⟩ z00a)) (List.drop (66 + 64) (escrow_State.cs ⟨a0.Side, a0.Time, r2, a0.Vault, a0.Nonces, a0.Held, a0.Burnt, a0.Locks⟩ z00a)) (by rfl) a0.Vault a1.Inv.Router a1.Asset a1.Amount (.ok r5) hr6).ok (.cons .k0 .nil) .nil (fun _ _ => rfl) (fun _ _ => rfl) rfl) (.inr fun _ _ _ h => (h.imp (Ls.of (.cons .k1 (.cons .k1 .nil)))).ro Rs.nil) fun _ _ => .conseq .k0 (q := blk b00 90 (escrow_State.cs ⟨a0.Side, a0.Time, r2, r5, a0.Nonces, a0.Held, a0.Burnt, a0.Locks⟩ z00a)) (fun _ h_ => by exact h_) <| .drop .k0 <| .dnil <| .then <| .reg rfl <| .opp (P.mov .t1) rfl <| .opp (P.fa .g1 fa_83_3 rfl) rfl <| .op (V.ld (v := N a1.Asset) .t0 .k1 (.one isAgg3 rfl)) rfl <| .opp (P.fa .t2 fa_83_4 rfl) rfl <| .op (V.ld (v := Ag (api_Wide.cs a1.Amount)) .t0 .k1 (.agg isAgg77 sizeOf77 rfl rfl)) rfl ?_
      rcases pxe_eq h with ⟨e10, hr9, h⟩ | ⟨r8, hr9, h⟩
      · refine .opg (G.callx call327 (.cons .t2 (.cons .t1 (.cons .t0 .nil))) (S_escrow_State_hold b00 (⟨a0.Side, a0.Time, r2, r5, a0.Nonces, a0.Held, a0.Burnt, a0.Locks⟩ : escrow_State) z00a a1.Asset a1.Amount (.er e10) hr9).er (.cons .k0 (.cons .k1 .nil)) .nil ?_) rfl fun _ h_ => h_.elim
        cases h
        exact .xer rfl
      · refine .opg (G.call call327 (.cons .t2 (.cons .t1 (.cons .t0 .nil))) (S_escrow_State_hold b00 (⟨a0.Side, a0.Time, r2, r5, a0.Nonces, a0.Held, a0.Burnt, a0.Locks⟩ : escrow_State) z00a a1.Asset a1.Amount (.ok r8) hr9).ok (.cons .k0 (.cons .k1 .nil)) .nil (fun _ _ => rfl) (fun _ _ => rfl) rfl) rfl fun _ _ => .drop .k0 <| .nil ?_
        cases h
        exact .xokn <| .finwn () (.r0 rfl) trivial (Ls.of (.cons .k0 (.cons .k0 .nil))) .nil
attribute [irreducible] escrow_State_store
noncomputable def escrow_State_do (a0 : escrow_State) (a1 : api_Tx) : Option (Px (escrow_State)) :=
  if (decide (a1.Kind = 1)) = true then (Option.bind (purse_Book_Move a0.Purse a1.From a1.Inv.To a1.Asset a1.Amount) fun r3 => pxe (escrow_check r3.2) (fun e8 => some (.er e8)) fun r6 => some ((.ok (⟨a0.Side, a0.Time, r3.1, a0.Vault, a0.Nonces, a0.Held, a0.Burnt, a0.Locks⟩ : escrow_State)))) else (if (decide (a1.Kind = 2)) = true then (pxe (escrow_State_store a0 a1) (fun e12 => some (.er e12)) fun r10 => some (.ok r10)) else (if (decide (a1.Kind = 3)) = true then none else (if (decide (a1.Kind = 4)) = true then none else (if (decide (a1.Kind = 5)) = true then none else (if (decide (a1.Kind = 6)) = true then none else (some (.ok a0)))))))
set_option maxRecDepth 20000 in
set_option maxHeartbeats 8000000 in
theorem S_escrow_State_do (b00 : Nat) (a0 : escrow_State) (z00a : Value) (a1 : api_Tx) (r : Px (escrow_State)) (h : escrow_State_do a0 a1 = some r) :
    SpecX Tryz.prog 197 [pt b00 0, Ag (api_Tx.cs a1)] [blk b00 90 (escrow_State.cs a0 z00a), lst 241 3 z00a (a0.Locks.map escrow_Lock.cs)] [] (fun (r : escrow_State) (z : Unit) => True) mustCh r (fun r z => Tu []) (fun r z M => blk b00 90 (escrow_State.cs r z00a) :: lst 241 3 z00a (r.Locks.map escrow_Lock.cs) ::  M) (fun r z M =>  M) := by
  refine .of func197 rfl ntmps197 rfl fun w0 D0 G0 => ?_
  unfold escrow_State_do at h
  refine .seq <| .reg rfl <| .opx (X.box (cs := (api_Tx.cs a1)) .t1 rfl) rfl fun b1 => .nil <| .then <| .seq <| .reg rfl <| .opp (P.fa .g0 fa_83_2 rfl) rfl <| .op (V.ld (v := N a1.Kind) .t0 .k0 (.one isAgg3 rfl)) rfl <| .nil <| .then <| .block ?_
  refine .seq <| .reg rfl <| .opp (P.bin .g0 .k .eql) rfl <| .opp (P.asg .t0) rfl <| .nil <| .then <| .cond .t0 (fun c2 => ?_) (fun c2 => ?_)
  · rw [if_pos c2] at h
    refine .seq ?_
    obtain ⟨r3, hr4, h⟩ := bnd_eq h
    refine .dcut (γ := Nat) (φ := fun _ => True) (E1 := fun x_ => [(5, N r3.2), (4, pt x_ 0), (0, pt b00 0)]) (L1 := fun x_ => [blk x_ 86 (purse_Book.cs r3.1), blk b1 83 (api_Tx.cs a1), blk b00 90 (escrow_State.cs a0 z00a), lst 241 3 z00a (a0.Locks.map escrow_Lock.cs)]) (R1 := fun x_ => []) ?_ (fun b5 _ => ?_)
    · refine .draw 20 (.on 0 .pu (.on 1 .pu (.on 2 .pu (.on 4 .pu (.on 6 .pu (.on 7 .pu (.on 9 .pu (.on 11 .pu (.on 3 .ld (.on 5 .ld (.on 8 .ld (.on 10 .ld (.on 12 .ld (.fk 13 17 (.on 14 .pu (.on 15 .pu (.on 16 .pu (.on 17 .go (.on 18 .go (.on 19 .go .nl)))))) (.on 13 .go (.on 14 .pu (.on 15 .pu (.on 16 .pu (.on 18 .go (.on 19 .go .nl)))))))))))))))))))) follows_mixed (.thn (.thn (.inb .bodx))) (by kernel_rfl) <| .dpu rfl (.n rfl) (P.mov .g2) rfl rfl <| .dpu rfl (.n rfl) (P.nilc .t0) rfl rfl <| .dpu rfl (.n rfl) (P.fa .t0 fa_90_2 rfl) rfl rfl <| .dpu rfl (.n rfl) (P.fa .g2 fa_83_0 rfl) rfl rfl <| .dpu rfl (.n rfl) (P.fa .g3 fa_83_5 rfl) rfl rfl <| .dpu rfl (.n rfl) (P.fa .t0 fa_79_5 rfl) rfl rfl <| .dpu rfl (.n rfl) (P.fa .g4 fa_83_3 rfl) rfl rfl <| .dpu rfl (.n rfl) (P.fa .t5 fa_83_4 rfl) rfl rfl <| .dld rfl (.n rfl) (V.ld (v := Ag (purse_Book.cs a0.Purse)) .t4 .k1 (.agg isAgg86 sizeOf86 rfl rfl)) (fun _ h => h) rfl rfl <| .dld rfl (.n rfl) (V.ld (v := N a1.From) .t4 .k0 (.one isAgg3 rfl)) (fun _ h => h) rfl rfl <| .dld rfl (.n rfl) (V.ld (v := N a1.Inv.To) .t4 .k0 (.one isAgg3 rfl)) (fun _ h => h) rfl rfl ?_
      refine .dld rfl (.n rfl) (V.ld (v := N a1.Asset) .t4 .k0 (.one isAgg3 rfl)) (fun _ h => h) rfl rfl <| .dld rfl (.n rfl) (V.ld (v := Ag (api_Wide.cs a1.Amount)) .t4 .k0 (.agg isAgg77 sizeOf77 rfl rfl)) (fun _ h => h) rfl rfl <| .dfk ?_ ?_
      · exact .dgo rfl (.n rfl) (G.call call259 (.cons .t4 (.cons .t3 (.cons .t2 (.cons .t1 (.cons .t0 .nil))))) (S_purse_Book_Move a0.Purse a1.From a1.Inv.To a1.Asset a1.Amount r3 hr4) .nil .nil (fun _ _ => rfl) (fun _ _ => rfl) rfl) (.inr fun _ _ _ h => h) fun _ _ => .dpu rfl (.n rfl) (P.mov .t0) rfl rfl <| .dpu rfl (.n rfl) (P.ext (v := Ag (purse_Book.cs r3.1)) .g0 rfl) rfl rfl <| .dpu rfl (.n rfl) (P.ext (v := N r3.2) .t1 rfl) rfl rfl <| .dgo rfl (.n rfl) (OpX.g (X.alc (cs := (purse_Book.cs ⟨⟨⟨0, 0, 0, 0⟩, ⟨0, 0, 0, 0⟩⟩, ⟨⟨0, 0, 0, 0⟩, ⟨0, 0, 0, 0⟩⟩, ⟨⟨0, 0, 0, 0⟩, ⟨0, 0, 0, 0⟩⟩, ⟨⟨0, 0, 0, 0⟩, ⟨0, 0, 0, 0⟩⟩, ⟨⟨0, 0, 0, 0⟩, ⟨0, 0, 0, 0⟩⟩, ⟨⟨0, 0, 0, 0⟩, ⟨0, 0, 0, 0⟩⟩, ⟨⟨0, 0, 0, 0⟩, ⟨0, 0, 0, 0⟩⟩, ⟨⟨0, 0, 0, 0⟩, ⟨0, 0, 0, 0⟩⟩⟩)) zeroValue86 rfl) rfl) (.inr fun _ _ _ h => (h.imp (Ls.of (.cons .k1 (.cons .k1 (.cons .k1 .nil))))).ro Rs.nil) fun b5 _ => .dgo rfl (.n rfl) (G.str .t2 .g0 .k0 (.mk (cs' := (purse_Book.cs r3.1)) sizeOf86 rfl rfl rfl rfl)) (.inr fun _ _ _ h => (h.imp (Ls.of (.cons .k1 (.cons .k1 (.cons .k1 .nil))))).ro Rs.nil) fun _ _ => .dgo rfl (.n rfl) (OpV.g (OpP.toV (P.asg .t1)) rfl) (.inr fun _ _ _ h => (h.imp (Ls.of (.cons .k1 (.cons .k1 (.cons .k1 .nil))))).ro Rs.nil) fun _ _ => .dnil <| .dst b5 trivial (.cons Mm.m0 (.cons Mm.m1 (.cons Mm.m3 .nil))) (Ls.of (.cons .k0 (.cons .k0 (.cons .k0 (.cons .k0 .nil))))) .nil
      · exact .dgo rfl (.n rfl) (OpX.g (X.alc (cs := (purse_Book.cs ⟨⟨⟨0, 0, 0, 0⟩, ⟨0, 0, 0, 0⟩⟩, ⟨⟨0, 0, 0, 0⟩, ⟨0, 0, 0, 0⟩⟩, ⟨⟨0, 0, 0, 0⟩, ⟨0, 0, 0, 0⟩⟩, ⟨⟨0, 0, 0, 0⟩, ⟨0, 0, 0, 0⟩⟩, ⟨⟨0, 0, 0, 0⟩, ⟨0, 0, 0, 0⟩⟩, ⟨⟨0, 0, 0, 0⟩, ⟨0, 0, 0, 0⟩⟩, ⟨⟨0, 0, 0, 0⟩, ⟨0, 0, 0, 0⟩⟩, ⟨⟨0, 0, 0, 0⟩, ⟨0, 0, 0, 0⟩⟩⟩)) zeroValue86 rfl) rfl) (.inr fun _ _ _ h => (h.imp (Ls.of (.cons .k1 (.cons .k1 (.cons .k1 .nil))))).ro Rs.nil) fun b5 _ => .dgo rfl (.n rfl) (G.call call259 (.cons .t5 (.cons .t4 (.cons .t3 (.cons .t2 (.cons .t1 .nil))))) (S_purse_Book_Move a0.Purse a1.From a1.Inv.To a1.Asset a1.Amount r3 hr4) .nil .nil (fun _ _ => rfl) (fun _ _ => rfl) rfl) (.inr fun _ _ _ h => (h.imp (Ls.of (.cons .k1 (.cons .k1 (.cons .k1 .nil))))).ro Rs.nil) fun _ _ => .dpu rfl (.n rfl) (P.mov .t0) rfl rfl <| .dpu rfl (.n rfl) (P.ext (v := Ag (purse_Book.cs r3.1)) .g0 rfl) rfl rfl <| .dpu rfl (.n rfl) (P.ext (v := N r3.2) .t1 rfl) rfl rfl <| .dgo rfl (.n rfl) (G.str .t1 .g1 .k0 (.mk (cs' := (purse_Book.cs r3.1)) sizeOf86 rfl rfl rfl rfl)) (.inr fun _ _ _ h => (h.imp (Ls.of (.cons .k1 (.cons .k1 (.cons .k1 .nil))))).ro Rs.nil) fun _ _ => .dgo rfl (.n rfl) (OpV.g (OpP.toV (P.asg .t0)) rfl) (.inr fun _ _ _ h => (h.imp (Ls.of (.cons .k1 (.cons .k1 (.cons .k1 .nil))))).ro Rs.nil) fun _ _ => .dnil <| .dst b5 trivial (.cons Mm.m0 (.cons Mm.m1 (.cons Mm.m3 .nil))) (Ls.of (.cons .k0 (.cons .k0 (.cons .k0 (.cons .k0 .nil))))) .nil
    · refine .then <| .seq <| .reg rfl <| .opp (P.mov .t0) rfl ?_
      rcases pxe_eq h with ⟨e8, hr7, h⟩ | ⟨r6, hr7, h⟩
      · refine .opg (G.callx call260 (.cons .t0 .nil) (S_escrow_check r3.2 (.er e8) hr7).er .nil .nil ?_) rfl fun _ h_ => h_.elim
        refine .thp <| .inp ?_
        cases h
        exact .xer rfl
      · refine .opg (G.call call260 (.cons .t0 .nil) (S_escrow_check r3.2 (.ok r6) hr7).ok .nil .nil (fun _ _ => rfl) (fun _ _ => rfl) rfl) rfl fun _ _ => .drop .k0 <| .nil <| .then <| .reg rfl <| .opp (P.mov .t1) rfl <| .op (V.ld (v := Ag (purse_Book.cs r3.1)) .t1 .k0 (.agg isAgg86 sizeOf86 rfl rfl)) rfl <| .opp (P.nilc .t1) rfl <| .opp (P.fa .t0 fa_90_2 rfl) rfl <| .opg (G.str .t1 .t0 .k2 (.mk (cs' := (escrow_State.cs ⟨a0.Side, a0.Time, r3.1, a0.Vault, a0.Nonces, a0.Held, a0.Burnt, a0.Locks⟩ z00a)) sizeOf86 rfl rfl rfl rfl)) rfl fun _ _ => .nil <| .inn ?_
        cases h
        exact .xokn <| .finwn () (.r0 rfl) trivial (Ls.of (.cons .k0 (.cons .k2 .nil))) .nil
  · rw [if_neg (ne_true_of_eq_false c2)] at h
    refine .seq <| .reg rfl <| .opp (P.bin .g0 .k .eql) rfl <| .opp (P.asg .t0) rfl <| .nil <| .then <| .cond .t0 (fun c9 => ?_) (fun c9 => ?_)
    · rw [if_pos c9] at h
      refine .reg rfl <| .opp (P.mov .t2) rfl <| .op (V.ld (v := Ag (api_Tx.cs a1)) .t2 .k0 (.agg isAgg83 sizeOf83 rfl rfl)) rfl ?_
      rcases pxe_eq h with ⟨e12, hr11, h⟩ | ⟨r10, hr11, h⟩
      · refine .opg (G.callx call261 (.cons .t1 (.cons .t0 .nil)) (S_escrow_State_store b00 a0 z00a a1 (.er e12) hr11).er (.cons .k1 (.cons .k1 .nil)) .nil ?_) rfl fun _ h_ => h_.elim
        refine .inp ?_
        cases h
        exact .xer rfl
      · refine .opg (G.call call261 (.cons .t1 (.cons .t0 .nil)) (S_escrow_State_store b00 a0 z00a a1 (.ok r10) hr11).ok (.cons .k1 (.cons .k1 .nil)) .nil (fun _ _ => rfl) (fun _ _ => rfl) rfl) rfl fun _ _ => .drop .k0 <| .nil <| .inn ?_
        cases h
        exact .xokn <| .finwn () (.r0 rfl) trivial (Ls.of (.cons .k0 (.cons .k0 .nil))) .nil
    · rw [if_neg (ne_true_of_eq_false c9)] at h
      refine .seq <| .reg rfl <| .opp (P.bin .g0 .k .eql) rfl <| .opp (P.asg .t0) rfl <| .nil <| .then <| .cond .t0 (fun c13 => ?_) (fun c13 => ?_)
      · rw [if_pos c13] at h
        refine .reg rfl <| .opp (P.mov .t2) rfl <| .op (V.ld (v := Ag (api_Tx.cs a1)) .t2 .k0 (.agg isAgg83 sizeOf83 rfl rfl)) rfl ?_
        cases h
      · rw [if_neg (ne_true_of_eq_false c13)] at h
        refine .seq <| .reg rfl <| .opp (P.bin .g0 .k .eql) rfl <| .opp (P.asg .t0) rfl <| .nil <| .then <| .cond .t0 (fun c14 => ?_) (fun c14 => ?_)
        · rw [if_pos c14] at h
          refine .reg rfl <| .opp (P.mov .t2) rfl <| .op (V.ld (v := Ag (api_Tx.cs a1)) .t2 .k0 (.agg isAgg83 sizeOf83 rfl rfl)) rfl ?_
          cases h
        · rw [if_neg (ne_true_of_eq_false c14)] at h
          refine .seq <| .reg rfl <| .opp (P.bin .g0 .k .eql) rfl <| .opp (P.asg .t0) rfl <| .nil <| .then <| .cond .t0 (fun c15 => ?_) (fun c15 => ?_)
          · rw [if_pos c15] at h
            refine .reg rfl <| .opp (P.mov .t2) rfl <| .op (V.ld (v := Ag (api_Tx.cs a1)) .t2 .k0 (.agg isAgg83 sizeOf83 rfl rfl)) rfl ?_
            cases h
          · rw [if_neg (ne_true_of_eq_false c15)] at h
            refine .seq <| .reg rfl <| .opp (P.bin .t0 .k .eql) rfl <| .opp (P.asg .t0) rfl <| .nil <| .then <| .cond .t0 (fun c16 => ?_) (fun c16 => ?_)
            · rw [if_pos c16] at h
              refine .reg rfl <| .opp (P.mov .t1) rfl <| .op (V.ld (v := Ag (api_Tx.cs a1)) .t1 .k0 (.agg isAgg83 sizeOf83 rfl rfl)) rfl ?_
              cases h
            · rw [if_neg (ne_true_of_eq_false c16)] at h
              refine .skip <| .inn ?_
              cases h
              exact .xokn <| .finwn () (.r0 rfl) trivial (Ls.of (.cons .k1 (.cons .k1 .nil))) .nil
attribute [irreducible] escrow_State_do
noncomputable def escrow_State_try (a0 : escrow_State) (a1 : api_Tx) : Option (escrow_State × Int) :=
  Option.bind (slices_Clone_escrow_Lock a0.Locks) fun r7 => pxe (escrow_State_do (⟨a0.Side, a0.Time, a0.Purse, a0.Vault, a0.Nonces, a0.Held, a0.Burnt, r7⟩ : escrow_State) a1) (fun e13 => some (a0, e13)) fun r11 => some (r11, 0)
set_option maxRecDepth 20000 in
set_option maxHeartbeats 8000000 in
theorem S_escrow_State_try (a0 : escrow_State) (z0a : Value) (a1 : api_Tx) (r : escrow_State × Int) (h : escrow_State_try a0 a1 = some r) :
    SpecF Tryz.prog 133 [Ag (escrow_State.cs a0 z0a), Ag (api_Tx.cs a1)] [lst 241 3 z0a (a0.Locks.map escrow_Lock.cs)] [] (fun z : Value => True) (fun z => Tu [Ag (escrow_State.cs r.1 z), N r.2]) (fun z M => lst 241 3 z (r.1.Locks.map escrow_Lock.cs) :: M) (fun z M => M) := by
  refine .ofD func133 rfl ntmps133 rfl fun w0 D0 G0 => ?_
  unfold escrow_State_try at h
  refine .cell .k0 fun hv0 => ?_
  refine .seq ?_
  refine .reg rfl ?_
  refine .opx (X.box (cs := (escrow_State.cs a0 z0a)) .t0 rfl) rfl fun b1 => ?_
  refine .opx (X.box (cs := (api_Tx.cs a1)) .t1 rfl) rfl fun b2 => ?_
  refine .opx (X.alc (cs := (escrow_State.cs ⟨0, 0, ⟨⟨⟨0, 0, 0, 0⟩, ⟨0, 0, 0, 0⟩⟩, ⟨⟨0, 0, 0, 0⟩, ⟨0, 0, 0, 0⟩⟩, ⟨⟨0, 0, 0, 0⟩, ⟨0, 0, 0, 0⟩⟩, ⟨⟨0, 0, 0, 0⟩, ⟨0, 0, 0, 0⟩⟩, ⟨⟨0, 0, 0, 0⟩, ⟨0, 0, 0, 0⟩⟩, ⟨⟨0, 0, 0, 0⟩, ⟨0, 0, 0, 0⟩⟩, ⟨⟨0, 0, 0, 0⟩, ⟨0, 0, 0, 0⟩⟩, ⟨⟨0, 0, 0, 0⟩, ⟨0, 0, 0, 0⟩⟩⟩, ⟨⟨⟨0, 0, 0, 0⟩, ⟨0, 0, 0, 0⟩⟩, ⟨⟨0, 0, 0, 0⟩, ⟨0, 0, 0, 0⟩⟩, ⟨⟨0, 0, 0, 0⟩, ⟨0, 0, 0, 0⟩⟩, ⟨⟨0, 0, 0, 0⟩, ⟨0, 0, 0, 0⟩⟩, ⟨⟨0, 0, 0, 0⟩, ⟨0, 0, 0, 0⟩⟩, ⟨⟨0, 0, 0, 0⟩, ⟨0, 0, 0, 0⟩⟩, ⟨⟨0, 0, 0, 0⟩, ⟨0, 0, 0, 0⟩⟩, ⟨⟨0, 0, 0, 0⟩, ⟨0, 0, 0, 0⟩⟩⟩, ⟨0, 0, 0, 0, 0, 0, 0, 0⟩, ⟨⟨0, 0, 0, 0⟩, ⟨0, 0, 0, 0⟩⟩, ⟨0, 0, 0, 0⟩, []⟩ nilSl)) zeroValue90 rfl) rfl fun b3 => ?_
  refine .opx (X.alc (cs := [N 0]) zeroValue26 rfl) rfl fun b4 => ?_
  refine .nil ?_
  refine .then ?_
  refine .seq ?_
  refine .defr rfl (.cons .g3 (.cons .g1 (.cons .g0 .nil))) rfl ?_
  refine .then ?_
  refine .seq ?_
  refine .reg rfl ?_
  refine .op (V.ld (v := Ag (escrow_State.cs a0 z0a)) .g3 .k3 (.agg isAgg90 sizeOf90 rfl rfl)) rfl ?_
  refine .opx (X.alc (cs := (escrow_State.cs ⟨0, 0, ⟨⟨⟨0, 0, 0, 0⟩, ⟨0, 0, 0, 0⟩⟩, ⟨⟨0, 0, 0, 0⟩, ⟨0, 0, 0, 0⟩⟩, ⟨⟨0, 0, 0, 0⟩, ⟨0, 0, 0, 0⟩⟩, ⟨⟨0, 0, 0, 0⟩, ⟨0, 0, 0, 0⟩⟩, ⟨⟨0, 0, 0, 0⟩, ⟨0, 0, 0, 0⟩⟩, ⟨⟨0, 0, 0, 0⟩, ⟨0, 0, 0, 0⟩⟩, ⟨⟨0, 0, 0, 0⟩, ⟨0, 0, 0, 0⟩⟩, ⟨⟨0, 0, 0, 0⟩, ⟨0, 0, 0, 0⟩⟩⟩, ⟨⟨⟨0, 0, 0, 0⟩, ⟨0, 0, 0, 0⟩⟩, ⟨⟨0, 0, 0, 0⟩, ⟨0, 0, 0, 0⟩⟩, ⟨⟨0, 0, 0, 0⟩, ⟨0, 0, 0, 0⟩⟩, ⟨⟨0, 0, 0, 0⟩, ⟨0, 0, 0, 0⟩⟩, ⟨⟨0, 0, 0, 0⟩, ⟨0, 0, 0, 0⟩⟩, ⟨⟨0, 0, 0, 0⟩, ⟨0, 0, 0, 0⟩⟩, ⟨⟨0, 0, 0, 0⟩, ⟨0, 0, 0, 0⟩⟩, ⟨⟨0, 0, 0, 0⟩, ⟨0, 0, 0, 0⟩⟩⟩, ⟨0, 0, 0, 0, 0, 0, 0, 0⟩, ⟨⟨0, 0, 0, 0⟩, ⟨0, 0, 0, 0⟩⟩, ⟨0, 0, 0, 0⟩, []⟩ nilSl)) zeroValue90 rfl) rfl fun b5 => ?_
  refine .onel .k5 fun ho6 => ?_
  refine .opg (G.str .t1 .g0 .k0 (.mk (cs' := (escrow_State.cs a0 z0a)) sizeOf90 rfl (onez_90 (a0 : escrow_State) ho6) rfl rfl)) rfl fun _ _ => ?_
  refine .nil ?_
  refine .then ?_
  refine .seq ?_
  refine .reg rfl ?_
  refine .opp (P.fa .t4 fa_90_7 rfl) rfl ?_
  refine .op (V.ld (v := z0a) .t0 .k4 (.one isAgg88 rfl)) rfl ?_
  obtain ⟨r7, hr8, h⟩ := bnd_eq h
  refine .opg (G.calll call130 (.cons .t0 .nil) (S_slices_Clone_escrow_Lock z0a a0.Locks r7 hr8) .nil (.imp (List.mem_append_right _ Mm.m5) (fun _ => lst_rows) .nil) (fun _ _ => rfl) rfl) rfl fun u9 _ => ?_
  refine .opp (P.fa .g1 fa_90_7 rfl) rfl ?_
  refine .onel .k0 fun ho10 => ?_
  refine .opg (G.str .t1 .t0 .k1 (.mk1 (cs' := (escrow_State.cs ⟨a0.Side, a0.Time, a0.Purse, a0.Vault, a0.Nonces, a0.Held, a0.Burnt, []⟩ u9)) sizeOf88 rfl ho10 rfl rfl)) rfl fun _ _ => ?_
  refine .nil ?_
  refine .then ?_
  refine .seq ?_
  refine .reg rfl ?_
  refine .op (V.ld (v := Ag (api_Tx.cs a1)) .t3 .k4 (.agg isAgg83 sizeOf83 rfl rfl)) rfl ?_
  rcases pxe_eq h with ⟨e13, hr12, h⟩ | ⟨r11, hr12, h⟩
  · refine .opg (G.callx call197 (.cons .g1 (.cons .t0 .nil)) (S_escrow_State_do b5 (⟨a0.Side, a0.Time, a0.Purse, a0.Vault, a0.Nonces, a0.Held, a0.Burnt, r7⟩ : escrow_State) u9 a1 (.er e13) hr12).er (.cons .k0 (.cons .k0 .nil)) .nil ?_) rfl fun _ h_ => h_.elim
    refine .thp ?_
    cases h
    refine .leaveP rfl call196 (S_tryp b1 b3 b4 a0 (⟨0, 0, ⟨⟨⟨0, 0, 0, 0⟩, ⟨0, 0, 0, 0⟩⟩, ⟨⟨0, 0, 0, 0⟩, ⟨0, 0, 0, 0⟩⟩, ⟨⟨0, 0, 0, 0⟩, ⟨0, 0, 0, 0⟩⟩, ⟨⟨0, 0, 0, 0⟩, ⟨0, 0, 0, 0⟩⟩, ⟨⟨0, 0, 0, 0⟩, ⟨0, 0, 0, 0⟩⟩, ⟨⟨0, 0, 0, 0⟩, ⟨0, 0, 0, 0⟩⟩, ⟨⟨0, 0, 0, 0⟩, ⟨0, 0, 0, 0⟩⟩, ⟨⟨0, 0, 0, 0⟩, ⟨0, 0, 0, 0⟩⟩⟩, ⟨⟨⟨0, 0, 0, 0⟩, ⟨0, 0, 0, 0⟩⟩, ⟨⟨0, 0, 0, 0⟩, ⟨0, 0, 0, 0⟩⟩, ⟨⟨0, 0, 0, 0⟩, ⟨0, 0, 0, 0⟩⟩, ⟨⟨0, 0, 0, 0⟩, ⟨0, 0, 0, 0⟩⟩, ⟨⟨0, 0, 0, 0⟩, ⟨0, 0, 0, 0⟩⟩, ⟨⟨0, 0, 0, 0⟩, ⟨0, 0, 0, 0⟩⟩, ⟨⟨0, 0, 0, 0⟩, ⟨0, 0, 0, 0⟩⟩, ⟨⟨0, 0, 0, 0⟩, ⟨0, 0, 0, 0⟩⟩⟩, ⟨0, 0, 0, 0, 0, 0, 0, 0⟩, ⟨⟨0, 0, 0, 0⟩, ⟨0, 0, 0, 0⟩⟩, ⟨0, 0, 0, 0⟩, []⟩ : escrow_State) z0a nilSl 0 e13 hv0) (.cons .k3 (.cons .k1 (.cons .k0 .nil))) .nil rfl ?_
    exact .finD z0a (.r2 rfl (.cell .g2 .k1 (.agg isAgg90 sizeOf90 rfl rfl)) (.cell .g1 .k2 (.one isAgg26 rfl))) trivial (by exact Ls.of (.cons .k4 .nil)) (by exact Rs.nil)
  · refine .opg (G.call call197 (.cons .g1 (.cons .t0 .nil)) (S_escrow_State_do b5 (⟨a0.Side, a0.Time, a0.Purse, a0.Vault, a0.Nonces, a0.Held, a0.Burnt, r7⟩ : escrow_State) u9 a1 (.ok r11) hr12).ok (.cons .k0 (.cons .k0 .nil)) .nil (fun _ _ => rfl) (fun _ _ => rfl) rfl) rfl fun _ _ => ?_
    refine .drop .k0 ?_
    refine .nil ?_
    refine .then ?_
    refine .seq ?_
    refine .reg rfl ?_
    refine .op (V.ld (v := Ag (escrow_State.cs r11 u9)) .t0 .k0 (.agg isAgg90 sizeOf90 rfl rfl)) rfl ?_
    refine .onel .k1 fun ho14 => ?_
    refine .opg (G.str .t0 .g1 .k3 (.mk (cs' := (escrow_State.cs r11 u9)) sizeOf90 rfl (onez_90 (r11 : escrow_State) ho14) rfl rfl)) rfl fun _ _ => ?_
    refine .opg (G.str .k .g0 .k3 (.mk (cs' := [N 0]) sizeOf26 rfl rfl rfl rfl)) rfl fun _ _ => ?_
    refine .nil ?_
    refine .then ?_
    refine .ret ?_
    cases h
    refine .leaveR rfl call196 (S_tryr b1 b3 b4 a0 r11 z0a u9 0 0 hv0) (.cons .k5 (.cons .k1 (.cons .k0 .nil))) .nil ?_
    exact .finD u9 (.r2 rfl (.cell .g1 .k1 (.agg isAgg90 sizeOf90 rfl rfl)) (.cell .g0 .k2 (.one isAgg26 rfl))) trivial (by exact Ls.of (.cons .k4 .nil)) (by exact Rs.nil)
attribute [irreducible] escrow_State_try
noncomputable def escrow_Apply (a0 : escrow_State) (a1 : api_Tx) : Option (escrow_State × Int × Bool) :=
  Option.bind (slices_Clone_escrow_Lock a0.Locks) fun r4 => if (decide ((txs_Check a1) ≠ 0)) = true then (some (((⟨a0.Side, a0.Time, a0.Purse, a0.Vault, a0.Nonces, a0.Held, a0.Burnt, r4⟩ : escrow_State), (txs_Check a1), false))) else (Option.bind (at_ (A8_i64.list a0.Nonces) a1.From) fun (x10 : Int) => if (decide (a1.Nonce ≠ x10)) = true then (some (((⟨a0.Side, a0.Time, a0.Purse, a0.Vault, a0.Nonces, a0.Held, a0.Burnt, r4⟩ : escrow_State), 20, false))) else (Option.bind (purse_Book_Take a0.Purse a1.From 0 (wide_Of 1)) fun r16 => thn (if (decide (r16.2 ≠ 0)) = true then true else (!(wide_Add a0.Burnt (wide_Of 1)).2)) fun (y20 : Bool) => if y20 = true then (some (((⟨a0.Side, a0.Time, a0.Purse, a0.Vault, a0.Nonces, a0.Held, a0.Burnt, r4⟩ : escrow_State), 21, false))) else (Option.bind (at_ (A8_i64.list a0.Nonces) a1.From) fun (x26 : Int) => Option.bind (at_ (A8_i64.list a0.Nonces) a1.From) fun (x30 : Int) => Option.bind (escrow_State_try (⟨a0.Side, a0.Time, r16.1, a0.Vault, A8_i64.set a0.Nonces (a1.From).toNat (IntKind.i64.wrap (x26 + 1)), a0.Held, (wide_Add a0.Burnt (wide_Of 1)).1, r4⟩ : escrow_State) a1) fun r34 => some (r34.1, r34.2, true))))
set_option maxRecDepth 20000 in
set_option maxHeartbeats 8000000 in
theorem S_escrow_Apply (a0 : escrow_State) (z00a : Value) (a1 : api_Tx) (r : escrow_State × Int × Bool) (h : escrow_Apply a0 a1 = some r) :
    SpecF Tryz.prog 73 [Ag (escrow_State.cs a0 z00a), Ag (api_Tx.cs a1)] [] [rows 3 z00a (a0.Locks.map escrow_Lock.cs)] (fun z : Value => True) (fun z => Tu [Ag (escrow_State.cs r.1 z), N r.2.1, Bo r.2.2]) (fun z M => lst 241 3 z (r.1.Locks.map escrow_Lock.cs) ::  M) (fun z M =>  M) := by
  refine .of func73 rfl ntmps73 rfl fun w0 D0 G0 => ?_
  unfold escrow_Apply at h
  refine .seq <| .reg rfl <| .opx (X.box (cs := (escrow_State.cs a0 z00a)) .t0 rfl) rfl fun b1 => .opx (X.box (cs := (api_Tx.cs a1)) .t1 rfl) rfl fun b2 => .opx (X.alc (cs := (escrow_State.cs ⟨0, 0, ⟨⟨⟨0, 0, 0, 0⟩, ⟨0, 0, 0, 0⟩⟩, ⟨⟨0, 0, 0, 0⟩, ⟨0, 0, 0, 0⟩⟩, ⟨⟨0, 0, 0, 0⟩, ⟨0, 0, 0, 0⟩⟩, ⟨⟨0, 0, 0, 0⟩, ⟨0, 0, 0, 0⟩⟩, ⟨⟨0, 0, 0, 0⟩, ⟨0, 0, 0, 0⟩⟩, ⟨⟨0, 0, 0, 0⟩, ⟨0, 0, 0, 0⟩⟩, ⟨⟨0, 0, 0, 0⟩, ⟨0, 0, 0, 0⟩⟩, ⟨⟨0, 0, 0, 0⟩, ⟨0, 0, 0, 0⟩⟩⟩, ⟨⟨⟨0, 0, 0, 0⟩, ⟨0, 0, 0, 0⟩⟩, ⟨⟨0, 0, 0, 0⟩, ⟨0, 0, 0, 0⟩⟩, ⟨⟨0, 0, 0, 0⟩, ⟨0, 0, 0, 0⟩⟩, ⟨⟨0, 0, 0, 0⟩, ⟨0, 0, 0, 0⟩⟩, ⟨⟨0, 0, 0, 0⟩, ⟨0, 0, 0, 0⟩⟩, ⟨⟨0, 0, 0, 0⟩, ⟨0, 0, 0, 0⟩⟩, ⟨⟨0, 0, 0, 0⟩, ⟨0, 0, 0, 0⟩⟩, ⟨⟨0, 0, 0, 0⟩, ⟨0, 0, 0, 0⟩⟩⟩, ⟨0, 0, 0, 0, 0, 0, 0, 0⟩, ⟨⟨0, 0, 0, 0⟩, ⟨0, 0, 0, 0⟩⟩, ⟨0, 0, 0, 0⟩, []⟩ nilSl)) zeroValue90 rfl) rfl fun b3 => .op0 (OpP.toV (P.asg .k)) rfl <| .op0 (OpP.toV (P.asg .k)) rfl <| .nil <| .then <| .seq <| .reg rfl <| .opp (P.fa .g2 fa_90_7 rfl) rfl ?_
  refine .op (V.ld (v := z00a) .t0 .k2 (.one isAgg88 rfl)) rfl ?_
  obtain ⟨r4, hr5, h⟩ := bnd_eq h
  refine .opg (G.call call130 (.cons .t0 .nil) (S_slices_Clone_escrow_Lock z00a a0.Locks r4 hr5) .nil (.cons Mm.m0 .nil) (fun _ _ => rfl) (fun _ _ => rfl) rfl) rfl fun u6 _ => .opp (P.fa .g3 fa_90_7 rfl) rfl <| .onel .k0 fun ho7 => .opg (G.str .t1 .t0 .k3 (.mk1 (cs' := (escrow_State.cs ⟨a0.Side, a0.Time, a0.Purse, a0.Vault, a0.Nonces, a0.Held, a0.Burnt, []⟩ u6)) sizeOf88 rfl ho7 rfl rfl)) rfl fun _ _ => .nil <| .then <| .seq <| .seq <| .reg rfl <| .op (V.ld (v := Ag (api_Tx.cs a1)) .g1 .k3 (.agg isAgg83 sizeOf83 rfl rfl)) rfl <| .opg (G.call call71 (.cons .t0 .nil) (S_txs_Check a1 _ rfl) .nil .nil (fun _ _ => rfl) (fun _ _ => rfl) rfl) rfl fun _ _ => .opp (P.asg .t0) rfl ?_
  refine .nil <| .then <| .seq <| .reg rfl <| .opp (P.mov .g0) rfl <| .opp (P.bin .t0 .k .neq) rfl <| .nil <| .then <| .cond .t0 (fun c8 => ?_) (fun c8 => ?_)
  · rw [if_pos c8] at h
    refine .seq <| .reg rfl <| .op (V.ld (v := Ag (escrow_State.cs ⟨a0.Side, a0.Time, a0.Purse, a0.Vault, a0.Nonces, a0.Held, a0.Burnt, []⟩ u6)) .t3 .k0 (.agg isAgg90 sizeOf90 rfl rfl)) rfl <| .opp (P.mov .t1) rfl <| .onel .k1 fun ho9 => .opg (G.str .t1 .g1 .k2 (.mk (cs' := (escrow_State.cs ⟨a0.Side, a0.Time, a0.Purse, a0.Vault, a0.Nonces, a0.Held, a0.Burnt, []⟩ u6)) sizeOf90 rfl (onez_90 _ ho9) rfl rfl)) rfl fun _ _ => .opp (P.asg .t0) rfl <| .opp (P.asg .k) rfl <| .nil <| .then <| .ret <| .thr ?_
    cases h
    exact .finw u6 (.r3 rfl (.cell .g2 .k0 (.agg isAgg90 sizeOf90 rfl rfl)) (.tmp .g1) (.tmp .g0)) trivial (Ls.of (.cons .k2 .nil)) .nil
  · rw [if_neg (ne_true_of_eq_false c8)] at h
    refine .skip <| .then <| .seq <| .seq <| .draw 8 (.on 0 .pu (.on 2 .pu (.on 4 .pu (.on 1 .ld (.on 3 .ld (.on 5 .pu (.on 6 .ld (.on 7 .pu .nl)))))))) follows_mixed (.thn (.thn .body)) (by kernel_rfl) <| .dpu rfl (.n rfl) (P.fa .g2 fa_83_1 rfl) rfl rfl <| .dpu rfl (.n rfl) (P.fa .g3 fa_83_0 rfl) rfl rfl <| .dpu rfl (.n rfl) (P.fa .g5 fa_90_4 rfl) rfl rfl <| .dld rfl (.n rfl) (V.ld (v := N a1.Nonce) .t2 .k3 (.one isAgg3 rfl)) (fun _ h => h) rfl rfl <| .dld rfl (.n rfl) (V.ld (v := N a1.From) .t2 .k3 (.one isAgg3 rfl)) (fun _ h => h) rfl rfl ?_
    obtain ⟨x10, hx11, h⟩ := bnd_eq h
    obtain ⟨i12, hi13, hx11⟩ := at_eq hx11
    have hi13_ : (a1.From).toNat = i12 := by rw [hi13]; rfl
    refine .dpu rfl (.n rfl) (P.iad (i := i12) (off' := (130 + i12 * 1)) .t0 hi13 .t1 runUnderlying87 sizeOf3 (lt_of_get hx11) rfl) rfl rfl <| .dld rfl (.n rfl) (V.ld (v := N x10) .t0 .k0 (by rcases i12 with _ | _ | _ | _ | _ | _ | _ | _ | _ <;> first | (obtain rfl := Option.some.inj hx11; exact LdV.one isAgg3 rfl) | (cases hx11; done))) (fun _ h => h) rfl rfl <| .dpu rfl (.n rfl) (P.bin .t1 .t0 .neq) rfl rfl <| .dnil <| .then <| .cond .t0 (fun c14 => ?_) (fun c14 => ?_)
    · rw [if_pos c14] at h
      refine .seq <| .reg rfl <| .op (V.ld (v := Ag (escrow_State.cs ⟨a0.Side, a0.Time, a0.Purse, a0.Vault, a0.Nonces, a0.Held, a0.Burnt, []⟩ u6)) .t3 .k0 (.agg isAgg90 sizeOf90 rfl rfl)) rfl <| .onel .k1 fun ho15 => .opg (G.str .t0 .g1 .k2 (.mk (cs' := (escrow_State.cs ⟨a0.Side, a0.Time, a0.Purse, a0.Vault, a0.Nonces, a0.Held, a0.Burnt, []⟩ u6)) sizeOf90 rfl (onez_90 _ ho15) rfl rfl)) rfl fun _ _ => .opp (P.asg .k) rfl <| .opp (P.asg .k) rfl <| .nil <| .then <| .ret <| .thr ?_
      cases h
      exact .finw u6 (.r3 rfl (.cell .g3 .k0 (.agg isAgg90 sizeOf90 rfl rfl)) (.tmp .g1) (.tmp .g0)) trivial (Ls.of (.cons .k2 .nil)) .nil
    · rw [if_neg (ne_true_of_eq_false c14)] at h
      refine .skip <| .then <| .seq ?_
      obtain ⟨r16, hr17, h⟩ := bnd_eq h
      refine .dcut (γ := Nat) (φ := fun _ => True) (E1 := fun x_ => [(9, N r16.2), (8, pt x_ 0), (4, pt b3 0), (3, pt b2 0), (2, pt b1 0)]) (L1 := fun x_ => [blk x_ 86 (purse_Book.cs r16.1), blk b1 90 (escrow_State.cs ⟨a0.Side, a0.Time, a0.Purse, a0.Vault, a0.Nonces, a0.Held, a0.Burnt, []⟩ u6), lst 241 3 u6 (r4.map escrow_Lock.cs), blk b3 90 (escrow_State.cs ⟨0, 0, ⟨⟨⟨0, 0, 0, 0⟩, ⟨0, 0, 0, 0⟩⟩, ⟨⟨0, 0, 0, 0⟩, ⟨0, 0, 0, 0⟩⟩, ⟨⟨0, 0, 0, 0⟩, ⟨0, 0, 0, 0⟩⟩, ⟨⟨0, 0, 0, 0⟩, ⟨0, 0, 0, 0⟩⟩, ⟨⟨0, 0, 0, 0⟩, ⟨0, 0, 0, 0⟩⟩, ⟨⟨0, 0, 0, 0⟩, ⟨0, 0, 0, 0⟩⟩, ⟨⟨0, 0, 0, 0⟩, ⟨0, 0, 0, 0⟩⟩, ⟨⟨0, 0, 0, 0⟩, ⟨0, 0, 0, 0⟩⟩⟩, ⟨⟨⟨0, 0, 0, 0⟩, ⟨0, 0, 0, 0⟩⟩, ⟨⟨0, 0, 0, 0⟩, ⟨0, 0, 0, 0⟩⟩, ⟨⟨0, 0, 0, 0⟩, ⟨0, 0, 0, 0⟩⟩, ⟨⟨0, 0, 0, 0⟩, ⟨0, 0, 0, 0⟩⟩, ⟨⟨0, 0, 0, 0⟩, ⟨0, 0, 0, 0⟩⟩, ⟨⟨0, 0, 0, 0⟩, ⟨0, 0, 0, 0⟩⟩, ⟨⟨0, 0, 0, 0⟩, ⟨0, 0, 0, 0⟩⟩, ⟨⟨0, 0, 0, 0⟩, ⟨0, 0, 0, 0⟩⟩⟩, ⟨0, 0, 0, 0, 0, 0, 0, 0⟩, ⟨⟨0, 0, 0, 0⟩, ⟨0, 0, 0, 0⟩⟩, ⟨0, 0, 0, 0⟩, []⟩ nilSl), blk b2 83 (api_Tx.cs a1)]) (R1 := fun x_ => [rows 3 z00a (a0.Locks.map escrow_Lock.cs)]) ?_ (fun b18 _ => ?_)
      · refine .draw 12 (.on 0 .pu (.on 2 .pu (.on 1 .ld (.on 3 .ld (.fk 4 9 (.fk 5 9 (.on 6 .pu (.on 7 .pu (.on 8 .pu (.on 9 .go (.on 10 .go (.on 11 .go .nl)))))) (.on 5 .go (.on 6 .pu (.on 7 .pu (.on 8 .pu (.on 10 .go (.on 11 .go .nl))))))) (.on 4 .go (.on 5 .go (.on 6 .pu (.on 7 .pu (.on 8 .pu (.on 10 .go (.on 11 .go .nl)))))))))))) follows_mixed (.thn (.thn .body)) (by kernel_rfl) <| .dpu rfl (.n rfl) (P.fa .g3 fa_90_2 rfl) rfl rfl <| .dpu rfl (.n rfl) (P.fa .g3 fa_83_0 rfl) rfl rfl <| .dld rfl (.n rfl) (V.ld (v := Ag (purse_Book.cs a0.Purse)) .t1 .k0 (.agg isAgg86 sizeOf86 rfl rfl)) (fun _ h => h) rfl rfl <| .dld rfl (.n rfl) (V.ld (v := N a1.From) .t1 .k3 (.one isAgg3 rfl)) (fun _ h => h) rfl rfl <| .dfk ?_ ?_
        · refine .dgo rfl (.n rfl) (G.call call38 (.cons .k .nil) (S_wide_Of 1 _ rfl) .nil .nil (fun _ _ => rfl) (fun _ _ => rfl) rfl) (.inr fun _ _ _ h => h) fun _ _ => .dfk ?_ ?_
          · exact .dgo rfl (.n rfl) (G.call call131 (.cons .t2 (.cons .t1 (.cons .k (.cons .t0 .nil)))) (S_purse_Book_Take a0.Purse a1.From 0 (wide_Of 1) r16 hr17) .nil .nil (fun _ _ => rfl) (fun _ _ => rfl) rfl) (.inr fun _ _ _ h => h) fun _ _ => .dpu rfl (.n rfl) (P.mov .t0) rfl rfl <| .dpu rfl (.n rfl) (P.ext (v := Ag (purse_Book.cs r16.1)) .g0 rfl) rfl rfl <| .dpu rfl (.n rfl) (P.ext (v := N r16.2) .t1 rfl) rfl rfl <| .dgo rfl (.n rfl) (OpX.g (X.alc (cs := (purse_Book.cs ⟨⟨⟨0, 0, 0, 0⟩, ⟨0, 0, 0, 0⟩⟩, ⟨⟨0, 0, 0, 0⟩, ⟨0, 0, 0, 0⟩⟩, ⟨⟨0, 0, 0, 0⟩, ⟨0, 0, 0, 0⟩⟩, ⟨⟨0, 0, 0, 0⟩, ⟨0, 0, 0, 0⟩⟩, ⟨⟨0, 0, 0, 0⟩, ⟨0, 0, 0, 0⟩⟩, ⟨⟨0, 0, 0, 0⟩, ⟨0, 0, 0, 0⟩⟩, ⟨⟨0, 0, 0, 0⟩, ⟨0, 0, 0, 0⟩⟩, ⟨⟨0, 0, 0, 0⟩, ⟨0, 0, 0, 0⟩⟩⟩)) zeroValue86 rfl) rfl) (.inr fun _ _ _ h => (h.imp (Ls.of (.cons .k1 (.cons .k1 (.cons .k1 (.cons .k1 .nil)))))).ro (Rs.cons Mm.m0 Rs.nil)) fun b18 _ => .dgo rfl (.n rfl) (G.str .t2 .g0 .k0 (.mk (cs' := (purse_Book.cs r16.1)) sizeOf86 rfl rfl rfl rfl)) (.inr fun _ _ _ h => (h.imp (Ls.of (.cons .k1 (.cons .k1 (.cons .k1 (.cons .k1 .nil)))))).ro (Rs.cons Mm.m0 Rs.nil)) fun _ _ => .dgo rfl (.n rfl) (OpV.g (OpP.toV (P.asg .t1)) rfl) (.inr fun _ _ _ h => (h.imp (Ls.of (.cons .k1 (.cons .k1 (.cons .k1 (.cons .k1 .nil)))))).ro (Rs.cons Mm.m0 Rs.nil)) fun _ _ => .dnil <| .dst b18 trivial (.cons Mm.m0 (.cons Mm.m1 (.cons Mm.m3 (.cons Mm.m4 (.cons Mm.m5 .nil))))) (Ls.of (.cons .k0 (.cons .k0 (.cons .k0 (.cons .k0 (.cons .k0 .nil)))))) (.cons Mm.m0 .nil)
          · exact .dgo rfl (.n rfl) (OpX.g (X.alc (cs := (purse_Book.cs ⟨⟨⟨0, 0, 0, 0⟩, ⟨0, 0, 0, 0⟩⟩, ⟨⟨0, 0, 0, 0⟩, ⟨0, 0, 0, 0⟩⟩, ⟨⟨0, 0, 0, 0⟩, ⟨0, 0, 0, 0⟩⟩, ⟨⟨0, 0, 0, 0⟩, ⟨0, 0, 0, 0⟩⟩, ⟨⟨0, 0, 0, 0⟩, ⟨0, 0, 0, 0⟩⟩, ⟨⟨0, 0, 0, 0⟩, ⟨0, 0, 0, 0⟩⟩, ⟨⟨0, 0, 0, 0⟩, ⟨0, 0, 0, 0⟩⟩, ⟨⟨0, 0, 0, 0⟩, ⟨0, 0, 0, 0⟩⟩⟩)) zeroValue86 rfl) rfl) (.inr fun _ _ _ h => (h.imp (Ls.of (.cons .k1 (.cons .k1 (.cons .k1 (.cons .k1 .nil)))))).ro (Rs.cons Mm.m0 Rs.nil)) fun b18 _ => .dgo rfl (.n rfl) (G.call call131 (.cons .t3 (.cons .t2 (.cons .k (.cons .t1 .nil)))) (S_purse_Book_Take a0.Purse a1.From 0 (wide_Of 1) r16 hr17) .nil .nil (fun _ _ => rfl) (fun _ _ => rfl) rfl) (.inr fun _ _ _ h => (h.imp (Ls.of (.cons .k1 (.cons .k1 (.cons .k1 (.cons .k1 .nil)))))).ro (Rs.cons Mm.m0 Rs.nil)) fun _ _ => .dpu rfl (.n rfl) (P.mov .t0) rfl rfl <| .dpu rfl (.n rfl) (P.ext (v := Ag (purse_Book.cs r16.1)) .g0 rfl) rfl rfl <| .dpu rfl (.n rfl) (P.ext (v := N r16.2) .t1 rfl) rfl rfl <| .dgo rfl (.n rfl) (G.str .t1 .g1 .k0 (.mk (cs' := (purse_Book.cs r16.1)) sizeOf86 rfl rfl rfl rfl)) (.inr fun _ _ _ h => (h.imp (Ls.of (.cons .k1 (.cons .k1 (.cons .k1 (.cons .k1 .nil)))))).ro (Rs.cons Mm.m0 Rs.nil)) fun _ _ => .dgo rfl (.n rfl) (OpV.g (OpP.toV (P.asg .t0)) rfl) (.inr fun _ _ _ h => (h.imp (Ls.of (.cons .k1 (.cons .k1 (.cons .k1 (.cons .k1 .nil)))))).ro (Rs.cons Mm.m0 Rs.nil)) fun _ _ => .dnil <| .dst b18 trivial (.cons Mm.m0 (.cons Mm.m1 (.cons Mm.m3 (.cons Mm.m4 (.cons Mm.m5 .nil))))) (Ls.of (.cons .k0 (.cons .k0 (.cons .k0 (.cons .k0 (.cons .k0 .nil)))))) (.cons Mm.m0 .nil)
        · exact .dgo rfl (.n rfl) (OpX.g (X.alc (cs := (purse_Book.cs ⟨⟨⟨0, 0, 0, 0⟩, ⟨0, 0, 0, 0⟩⟩, ⟨⟨0, 0, 0, 0⟩, ⟨0, 0, 0, 0⟩⟩, ⟨⟨0, 0, 0, 0⟩, ⟨0, 0, 0, 0⟩⟩, ⟨⟨0, 0, 0, 0⟩, ⟨0, 0, 0, 0⟩⟩, ⟨⟨0, 0, 0, 0⟩, ⟨0, 0, 0, 0⟩⟩, ⟨⟨0, 0, 0, 0⟩, ⟨0, 0, 0, 0⟩⟩, ⟨⟨0, 0, 0, 0⟩, ⟨0, 0, 0, 0⟩⟩, ⟨⟨0, 0, 0, 0⟩, ⟨0, 0, 0, 0⟩⟩⟩)) zeroValue86 rfl) rfl) (.inr fun _ _ _ h => (h.imp (Ls.of (.cons .k1 (.cons .k1 (.cons .k1 (.cons .k1 .nil)))))).ro (Rs.cons Mm.m0 Rs.nil)) fun b18 _ => .dgo rfl (.n rfl) (G.call call38 (.cons .k .nil) (S_wide_Of 1 _ rfl) .nil .nil (fun _ _ => rfl) (fun _ _ => rfl) rfl) (.inr fun _ _ _ h => (h.imp (Ls.of (.cons .k1 (.cons .k1 (.cons .k1 (.cons .k1 .nil)))))).ro (Rs.cons Mm.m0 Rs.nil)) fun _ _ => .dgo rfl (.n rfl) (G.call call131 (.cons .t3 (.cons .t2 (.cons .k (.cons .t0 .nil)))) (S_purse_Book_Take a0.Purse a1.From 0 (wide_Of 1) r16 hr17) .nil .nil (fun _ _ => rfl) (fun _ _ => rfl) rfl) (.inr fun _ _ _ h => (h.imp (Ls.of (.cons .k1 (.cons .k1 (.cons .k1 (.cons .k1 .nil)))))).ro (Rs.cons Mm.m0 Rs.nil)) fun _ _ => .dpu rfl (.n rfl) (P.mov .t0) rfl rfl <| .dpu rfl (.n rfl) (P.ext (v := Ag (purse_Book.cs r16.1)) .g0 rfl) rfl rfl <| .dpu rfl (.n rfl) (P.ext (v := N r16.2) .t1 rfl) rfl rfl <| .dgo rfl (.n rfl) (G.str .t1 .g1 .k0 (.mk (cs' := (purse_Book.cs r16.1)) sizeOf86 rfl rfl rfl rfl)) (.inr fun _ _ _ h => (h.imp (Ls.of (.cons .k1 (.cons .k1 (.cons .k1 (.cons .k1 .nil)))))).ro (Rs.cons Mm.m0 Rs.nil)) fun _ _ => .dgo rfl (.n rfl) (OpV.g (OpP.toV (P.asg .t0)) rfl) (.inr fun _ _ _ h => (h.imp (Ls.of (.cons .k1 (.cons .k1 (.cons .k1 (.cons .k1 .nil)))))).ro (Rs.cons Mm.m0 Rs.nil)) fun _ _ => .dnil <| .dst b18 trivial (.cons Mm.m0 (.cons Mm.m1 (.cons Mm.m3 (.cons Mm.m4 (.cons Mm.m5 .nil))))) (Ls.of (.cons .k0 (.cons .k0 (.cons .k0 (.cons .k0 (.cons .k0 .nil)))))) (.cons Mm.m0 .nil)
      · refine .then <| .seq <| .dcut (γ := Nat) (φ := fun _ => True) (E1 := fun x_ => [(11, Bo (wide_Add a0.Burnt (wide_Of 1)).2), (10, pt x_ 0), (9, N r16.2), (8, pt b18 0), (4, pt b3 0), (3, pt b2 0), (2, pt b1 0)]) (L1 := fun x_ => [blk x_ 77 (api_Wide.cs (wide_Add a0.Burnt (wide_Of 1)).1), blk b18 86 (purse_Book.cs r16.1), blk b1 90 (escrow_State.cs ⟨a0.Side, a0.Time, a0.Purse, a0.Vault, a0.Nonces, a0.Held, a0.Burnt, []⟩ u6), lst 241 3 u6 (r4.map escrow_Lock.cs), blk b3 90 (escrow_State.cs ⟨0, 0, ⟨⟨⟨0, 0, 0, 0⟩, ⟨0, 0, 0, 0⟩⟩, ⟨⟨0, 0, 0, 0⟩, ⟨0, 0, 0, 0⟩⟩, ⟨⟨0, 0, 0, 0⟩, ⟨0, 0, 0, 0⟩⟩, ⟨⟨0, 0, 0, 0⟩, ⟨0, 0, 0, 0⟩⟩, ⟨⟨0, 0, 0, 0⟩, ⟨0, 0, 0, 0⟩⟩, ⟨⟨0, 0, 0, 0⟩, ⟨0, 0, 0, 0⟩⟩, ⟨⟨0, 0, 0, 0⟩, ⟨0, 0, 0, 0⟩⟩, ⟨⟨0, 0, 0, 0⟩, ⟨0, 0, 0, 0⟩⟩⟩, ⟨⟨⟨0, 0, 0, 0⟩, ⟨0, 0, 0, 0⟩⟩, ⟨⟨0, 0, 0, 0⟩, ⟨0, 0, 0, 0⟩⟩, ⟨⟨0, 0, 0, 0⟩, ⟨0, 0, 0, 0⟩⟩, ⟨⟨0, 0, 0, 0⟩, ⟨0, 0, 0, 0⟩⟩, ⟨⟨0, 0, 0, 0⟩, ⟨0, 0, 0, 0⟩⟩, ⟨⟨0, 0, 0, 0⟩, ⟨0, 0, 0, 0⟩⟩, ⟨⟨0, 0, 0, 0⟩, ⟨0, 0, 0, 0⟩⟩, ⟨⟨0, 0, 0, 0⟩, ⟨0, 0, 0, 0⟩⟩⟩, ⟨0, 0, 0, 0, 0, 0, 0, 0⟩, ⟨⟨0, 0, 0, 0⟩, ⟨0, 0, 0, 0⟩⟩, ⟨0, 0, 0, 0⟩, []⟩ nilSl), blk b2 83 (api_Tx.cs a1)]) (R1 := fun x_ => [rows 3 z00a (a0.Locks.map escrow_Lock.cs)]) ?_ (fun b19 _ => ?_)
        · refine .draw 10 (.on 0 .pu (.on 1 .ld (.fk 2 7 (.fk 3 7 (.on 4 .pu (.on 5 .pu (.on 6 .pu (.on 7 .go (.on 8 .go (.on 9 .go .nl)))))) (.on 3 .go (.on 4 .pu (.on 5 .pu (.on 6 .pu (.on 8 .go (.on 9 .go .nl))))))) (.on 2 .go (.on 3 .go (.on 4 .pu (.on 5 .pu (.on 6 .pu (.on 8 .go (.on 9 .go .nl)))))))))) follows_mixed (.thn (.thn .body)) (by kernel_rfl) <| .dpu rfl (.n rfl) (P.fa .g4 fa_90_6 rfl) rfl rfl <| .dld rfl (.n rfl) (V.ld (v := Ag (api_Wide.cs a0.Burnt)) .t0 .k1 (.agg isAgg77 sizeOf77 rfl rfl)) (fun _ h => h) rfl rfl <| .dfk ?_ ?_
          · refine .dgo rfl (.n rfl) (G.call call38 (.cons .k .nil) (S_wide_Of 1 _ rfl) .nil .nil (fun _ _ => rfl) (fun _ _ => rfl) rfl) (.inr fun _ _ _ h => h) fun _ _ => .dfk ?_ ?_
            · exact .dgo rfl (.n rfl) (G.call call132 (.cons .t1 (.cons .t0 .nil)) (S_wide_Add a0.Burnt (wide_Of 1) _ rfl) .nil .nil (fun _ _ => rfl) (fun _ _ => rfl) rfl) (.inr fun _ _ _ h => h) fun _ _ => .dpu rfl (.n rfl) (P.mov .t0) rfl rfl <| .dpu rfl (.n rfl) (P.ext (v := Ag (api_Wide.cs (wide_Add a0.Burnt (wide_Of 1)).1)) .g0 rfl) rfl rfl <| .dpu rfl (.n rfl) (P.ext (v := Bo (wide_Add a0.Burnt (wide_Of 1)).2) .t1 rfl) rfl rfl <| .dgo rfl (.n rfl) (OpX.g (X.alc (cs := (api_Wide.cs ⟨0, 0, 0, 0⟩)) zeroValue77 rfl) rfl) (.inr fun _ _ _ h => (h.imp (Ls.of (.cons .k1 (.cons .k1 (.cons .k1 (.cons .k1 (.cons .k1 .nil))))))).ro (Rs.cons Mm.m0 Rs.nil)) fun b19 _ => .dgo rfl (.n rfl) (G.str .t2 .g0 .k0 (.mk (cs' := (api_Wide.cs (wide_Add a0.Burnt (wide_Of 1)).1)) sizeOf77 rfl rfl rfl rfl)) (.inr fun _ _ _ h => (h.imp (Ls.of (.cons .k1 (.cons .k1 (.cons .k1 (.cons .k1 (.cons .k1 .nil))))))).ro (Rs.cons Mm.m0 Rs.nil)) fun _ _ => .dgo rfl (.n rfl) (OpV.g (OpP.toV (P.asg .t1)) rfl) (.inr fun _ _ _ h => (h.imp (Ls.of (.cons .k1 (.cons .k1 (.cons .k1 (.cons .k1 (.cons .k1 .nil))))))).ro (Rs.cons Mm.m0 Rs.nil)) fun _ _ => .dnil <| .dst b19 trivial (.cons Mm.m0 (.cons Mm.m1 (.cons Mm.m2 (.cons Mm.m3 (.cons Mm.m4 (.cons Mm.m5 (.cons Mm.m6 .nil))))))) (Ls.of (.cons .k0 (.cons .k0 (.cons .k0 (.cons .k0 (.cons .k0 (.cons .k0 .nil))))))) (.cons Mm.m0 .nil)
            · exact .dgo rfl (.n rfl) (OpX.g (X.alc (cs := (api_Wide.cs ⟨0, 0, 0, 0⟩)) zeroValue77 rfl) rfl) (.inr fun _ _ _ h => (h.imp (Ls.of (.cons .k1 (.cons .k1 (.cons .k1 (.cons .k1 (.cons .k1 .nil))))))).ro (Rs.cons Mm.m0 Rs.nil)) fun b19 _ => .dgo rfl (.n rfl) (G.call call132 (.cons .t2 (.cons .t1 .nil)) (S_wide_Add a0.Burnt (wide_Of 1) _ rfl) .nil .nil (fun _ _ => rfl) (fun _ _ => rfl) rfl) (.inr fun _ _ _ h => (h.imp (Ls.of (.cons .k1 (.cons .k1 (.cons .k1 (.cons .k1 (.cons .k1 .nil))))))).ro (Rs.cons Mm.m0 Rs.nil)) fun _ _ => .dpu rfl (.n rfl) (P.mov .t0) rfl rfl <| .dpu rfl (.n rfl) (P.ext (v := Ag (api_Wide.cs (wide_Add a0.Burnt (wide_Of 1)).1)) .g0 rfl) rfl rfl <| .dpu rfl (.n rfl) (P.ext (v := Bo (wide_Add a0.Burnt (wide_Of 1)).2) .t1 rfl) rfl rfl <| .dgo rfl (.n rfl) (G.str .t1 .g1 .k0 (.mk (cs' := (api_Wide.cs (wide_Add a0.Burnt (wide_Of 1)).1)) sizeOf77 rfl rfl rfl rfl)) (.inr fun _ _ _ h => (h.imp (Ls.of (.cons .k1 (.cons .k1 (.cons .k1 (.cons .k1 (.cons .k1 .nil))))))).ro (Rs.cons Mm.m0 Rs.nil)) fun _ _ => .dgo rfl (.n rfl) (OpV.g (OpP.toV (P.asg .t0)) rfl) (.inr fun _ _ _ h => (h.imp (Ls.of (.cons .k1 (.cons .k1 (.cons .k1 (.cons .k1 (.cons .k1 .nil))))))).ro (Rs.cons Mm.m0 Rs.nil)) fun _ _ => .dnil <| .dst b19 trivial (.cons Mm.m0 (.cons Mm.m1 (.cons Mm.m2 (.cons Mm.m3 (.cons Mm.m4 (.cons Mm.m5 (.cons Mm.m6 .nil))))))) (Ls.of (.cons .k0 (.cons .k0 (.cons .k0 (.cons .k0 (.cons .k0 (.cons .k0 .nil))))))) (.cons Mm.m0 .nil)
          · exact .dgo rfl (.n rfl) (OpX.g (X.alc (cs := (api_Wide.cs ⟨0, 0, 0, 0⟩)) zeroValue77 rfl) rfl) (.inr fun _ _ _ h => (h.imp (Ls.of (.cons .k1 (.cons .k1 (.cons .k1 (.cons .k1 (.cons .k1 .nil))))))).ro (Rs.cons Mm.m0 Rs.nil)) fun b19 _ => .dgo rfl (.n rfl) (G.call call38 (.cons .k .nil) (S_wide_Of 1 _ rfl) .nil .nil (fun _ _ => rfl) (fun _ _ => rfl) rfl) (.inr fun _ _ _ h => (h.imp (Ls.of (.cons .k1 (.cons .k1 (.cons .k1 (.cons .k1 (.cons .k1 .nil))))))).ro (Rs.cons Mm.m0 Rs.nil)) fun _ _ => .dgo rfl (.n rfl) (G.call call132 (.cons .t2 (.cons .t0 .nil)) (S_wide_Add a0.Burnt (wide_Of 1) _ rfl) .nil .nil (fun _ _ => rfl) (fun _ _ => rfl) rfl) (.inr fun _ _ _ h => (h.imp (Ls.of (.cons .k1 (.cons .k1 (.cons .k1 (.cons .k1 (.cons .k1 .nil))))))).ro (Rs.cons Mm.m0 Rs.nil)) fun _ _ => .dpu rfl (.n rfl) (P.mov .t0) rfl rfl <| .dpu rfl (.n rfl) (P.ext (v := Ag (api_Wide.cs (wide_Add a0.Burnt (wide_Of 1)).1)) .g0 rfl) rfl rfl <| .dpu rfl (.n rfl) (P.ext (v := Bo (wide_Add a0.Burnt (wide_Of 1)).2) .t1 rfl) rfl rfl <| .dgo rfl (.n rfl) (G.str .t1 .g1 .k0 (.mk (cs' := (api_Wide.cs (wide_Add a0.Burnt (wide_Of 1)).1)) sizeOf77 rfl rfl rfl rfl)) (.inr fun _ _ _ h => (h.imp (Ls.of (.cons .k1 (.cons .k1 (.cons .k1 (.cons .k1 (.cons .k1 .nil))))))).ro (Rs.cons Mm.m0 Rs.nil)) fun _ _ => .dgo rfl (.n rfl) (OpV.g (OpP.toV (P.asg .t0)) rfl) (.inr fun _ _ _ h => (h.imp (Ls.of (.cons .k1 (.cons .k1 (.cons .k1 (.cons .k1 (.cons .k1 .nil))))))).ro (Rs.cons Mm.m0 Rs.nil)) fun _ _ => .dnil <| .dst b19 trivial (.cons Mm.m0 (.cons Mm.m1 (.cons Mm.m2 (.cons Mm.m3 (.cons Mm.m4 (.cons Mm.m5 (.cons Mm.m6 .nil))))))) (Ls.of (.cons .k0 (.cons .k0 (.cons .k0 (.cons .k0 (.cons .k0 (.cons .k0 .nil))))))) (.cons Mm.m0 .nil)
        · refine .then <| .seq ?_
          obtain ⟨y20, hj22, h⟩ := thn_eq h
          refine .cutx (γ := Unit) (E1 := fun z21 => [(53, Bo y20), (10, pt b19 0), (8, pt b18 0), (4, pt b3 0), (3, pt b2 0), (2, pt b1 0)]) (L1 := fun z21 => [blk b19 77 (api_Wide.cs (wide_Add a0.Burnt (wide_Of 1)).1), blk b18 86 (purse_Book.cs r16.1), blk b3 90 (escrow_State.cs ⟨0, 0, ⟨⟨⟨0, 0, 0, 0⟩, ⟨0, 0, 0, 0⟩⟩, ⟨⟨0, 0, 0, 0⟩, ⟨0, 0, 0, 0⟩⟩, ⟨⟨0, 0, 0, 0⟩, ⟨0, 0, 0, 0⟩⟩, ⟨⟨0, 0, 0, 0⟩, ⟨0, 0, 0, 0⟩⟩, ⟨⟨0, 0, 0, 0⟩, ⟨0, 0, 0, 0⟩⟩, ⟨⟨0, 0, 0, 0⟩, ⟨0, 0, 0, 0⟩⟩, ⟨⟨0, 0, 0, 0⟩, ⟨0, 0, 0, 0⟩⟩, ⟨⟨0, 0, 0, 0⟩, ⟨0, 0, 0, 0⟩⟩⟩, ⟨⟨⟨0, 0, 0, 0⟩, ⟨0, 0, 0, 0⟩⟩, ⟨⟨0, 0, 0, 0⟩, ⟨0, 0, 0, 0⟩⟩, ⟨⟨0, 0, 0, 0⟩, ⟨0, 0, 0, 0⟩⟩, ⟨⟨0, 0, 0, 0⟩, ⟨0, 0, 0, 0⟩⟩, ⟨⟨0, 0, 0, 0⟩, ⟨0, 0, 0, 0⟩⟩, ⟨⟨0, 0, 0, 0⟩, ⟨0, 0, 0, 0⟩⟩, ⟨⟨0, 0, 0, 0⟩, ⟨0, 0, 0, 0⟩⟩, ⟨⟨0, 0, 0, 0⟩, ⟨0, 0, 0, 0⟩⟩⟩, ⟨0, 0, 0, 0, 0, 0, 0, 0⟩, ⟨⟨0, 0, 0, 0⟩, ⟨0, 0, 0, 0⟩⟩, ⟨0, 0, 0, 0⟩, []⟩ nilSl), blk b2 83 (api_Tx.cs a1), blk b1 90 (escrow_State.cs ⟨a0.Side, a0.Time, a0.Purse, a0.Vault, a0.Nonces, a0.Held, a0.Burnt, r4⟩ u6), lst 241 3 u6 (r4.map escrow_Lock.cs)]) (R1 := fun z21 => [rows 3 z00a (a0.Locks.map escrow_Lock.cs)]) ?_ (fun z21 => ?_)
          · clear h
            refine .reg rfl <| .opp (P.mov .t2) rfl <| .opp (P.bin .t0 .k .neq) rfl <| .opp (P.mov .t0) rfl <| .split .k0 (fun c23 => ?_) (fun c23 => ?_)
            · rw [if_pos c23] at hj22
              refine .gno rfl .g0 rfl rfl <| .gno rfl .g0 rfl rfl <| .opp (P.pickT .t0 .k) rfl <| .nil ?_
              subst hj22
              exact .stj () (.cons Mm.m0 (.cons Mm.m2 (.cons Mm.m3 (.cons Mm.m4 (.cons Mm.m5 (.cons Mm.m6 .nil)))))) (.of (.cons .k0 (.cons .k0 (.cons .k2 (.cons .k2 (.cons .k0 (.cons .k0 .nil))))))) (.cons Mm.m0 .nil)
            · rw [if_neg (ne_true_of_eq_false c23)] at hj22
              refine .gyes rfl .g0 <| .opp (P.mov .t1) rfl <| .gyes rfl .g1 <| .opp (P.not .t0) rfl <| .opp (P.pickF .t1 .t0) rfl <| .nil ?_
              subst hj22
              exact .stj () (.cons Mm.m0 (.cons Mm.m1 (.cons Mm.m2 (.cons Mm.m3 (.cons Mm.m4 (.cons Mm.m5 .nil)))))) (.of (.cons .k0 (.cons .k0 (.cons .k2 (.cons .k2 (.cons .k0 (.cons .k0 .nil))))))) (.cons Mm.m0 .nil)
          · clear hj22
            refine .cond .t0 (fun c24 => ?_) (fun c24 => ?_)
            · rw [if_pos c24] at h
              refine .seq <| .reg rfl <| .op (V.ld (v := Ag (escrow_State.cs ⟨a0.Side, a0.Time, a0.Purse, a0.Vault, a0.Nonces, a0.Held, a0.Burnt, r4⟩ u6)) .t4 .k4 (.agg isAgg90 sizeOf90 rfl rfl)) rfl <| .onel .k5 fun ho25 => .opg (G.str .t0 .g2 .k2 (.mk (cs' := (escrow_State.cs ⟨a0.Side, a0.Time, a0.Purse, a0.Vault, a0.Nonces, a0.Held, a0.Burnt, r4⟩ u6)) sizeOf90 rfl (onez_90 _ ho25) rfl rfl)) rfl fun _ _ => .opp (P.asg .k) rfl <| .opp (P.asg .k) rfl <| .nil <| .then <| .ret <| .thr ?_
              cases h
              exact .finw u6 (.r3 rfl (.cell .g4 .k0 (.agg isAgg90 sizeOf90 rfl rfl)) (.tmp .g1) (.tmp .g0)) trivial (Ls.of (.cons .k5 .nil)) .nil
            · rw [if_neg (ne_true_of_eq_false c24)] at h
              refine .skip <| .then <| .seq <| .drawl [blk b19 77 (api_Wide.cs (wide_Add a0.Burnt (wide_Of 1)).1), blk b18 86 (purse_Book.cs r16.1), blk b3 90 (escrow_State.cs ⟨0, 0, ⟨⟨⟨0, 0, 0, 0⟩, ⟨0, 0, 0, 0⟩⟩, ⟨⟨0, 0, 0, 0⟩, ⟨0, 0, 0, 0⟩⟩, ⟨⟨0, 0, 0, 0⟩, ⟨0, 0, 0, 0⟩⟩, ⟨⟨0, 0, 0, 0⟩, ⟨0, 0, 0, 0⟩⟩, ⟨⟨0, 0, 0, 0⟩, ⟨0, 0, 0, 0⟩⟩, ⟨⟨0, 0, 0, 0⟩, ⟨0, 0, 0, 0⟩⟩, ⟨⟨0, 0, 0, 0⟩, ⟨0, 0, 0, 0⟩⟩, ⟨⟨0, 0, 0, 0⟩, ⟨0, 0, 0, 0⟩⟩⟩, ⟨⟨⟨0, 0, 0, 0⟩, ⟨0, 0, 0, 0⟩⟩, ⟨⟨0, 0, 0, 0⟩, ⟨0, 0, 0, 0⟩⟩, ⟨⟨0, 0, 0, 0⟩, ⟨0, 0, 0, 0⟩⟩, ⟨⟨0, 0, 0, 0⟩, ⟨0, 0, 0, 0⟩⟩, ⟨⟨0, 0, 0, 0⟩, ⟨0, 0, 0, 0⟩⟩, ⟨⟨0, 0, 0, 0⟩, ⟨0, 0, 0, 0⟩⟩, ⟨⟨0, 0, 0, 0⟩, ⟨0, 0, 0, 0⟩⟩, ⟨⟨0, 0, 0, 0⟩, ⟨0, 0, 0, 0⟩⟩⟩, ⟨0, 0, 0, 0, 0, 0, 0, 0⟩, ⟨⟨0, 0, 0, 0⟩, ⟨0, 0, 0, 0⟩⟩, ⟨0, 0, 0, 0⟩, []⟩ nilSl), blk b2 83 (api_Tx.cs a1), lst 241 3 u6 (r4.map escrow_Lock.cs)] [rows 3 z00a (a0.Locks.map escrow_Lock.cs)] (Ls.of (.cons .k0 (.cons .k0 (.cons .k0 (.cons .k0 (.cons .k1 .nil)))))) (Rs.cons Mm.m0 Rs.nil) 6 (.on 0 .ld (.on 2 .pu (.on 1 .ld (.on 3 .go (.on 4 .pu (.on 5 .go .nl)))))) follows_mixed (.thn .body) (by kernel_rfl) <| .dld rfl (.n rfl) (V.ld (v := Ag (purse_Book.cs r16.1)) .t1 .k1 (.agg isAgg86 sizeOf86 rfl rfl)) (fun _ h => (h.imp (Ls.of (.cons .k0 (.cons .k0 (.cons .k0 (.cons .k0 (.cons .k1 .nil))))))).ro (Rs.cons Mm.m0 Rs.nil)) rfl rfl <| .dpu rfl (.n rfl) (P.fa .g4 fa_90_2 rfl) rfl rfl <| .dld rfl (.n rfl) (V.ld (v := Ag (api_Wide.cs (wide_Add a0.Burnt (wide_Of 1)).1)) .t2 .k0 (.agg isAgg77 sizeOf77 rfl rfl)) (fun _ h => (h.imp (Ls.of (.cons .k0 (.cons .k0 (.cons .k0 (.cons .k0 (.cons .k1 .nil))))))).ro (Rs.cons Mm.m0 Rs.nil)) rfl rfl <| .dgo rfl (.n rfl) (G.str .t2 .t1 .k4 (.mk (cs' := (escrow_State.cs ⟨a0.Side, a0.Time, r16.1, a0.Vault, a0.Nonces, a0.Held, a0.Burnt, r4⟩ u6)) sizeOf86 rfl rfl rfl rfl)) (.inr fun _ _ _ h => (h.imp (Ls.of (.cons .k1 (.cons .k1 (.cons .k1 (.cons .k1 (.cons .k1 .nil))))))).ro (Rs.cons Mm.m0 Rs.nil)) fun _ _ => .dpu rfl (.n rfl) (P.fa .g3 fa_90_6 rfl) rfl rfl <| .dgo rfl (.n rfl) (G.str .t1 .t0 .k0 (.mk (cs' := (escrow_State.cs ⟨a0.Side, a0.Time, r16.1, a0.Vault, a0.Nonces, a0.Held, (wide_Add a0.Burnt (wide_Of 1)).1, r4⟩ u6)) sizeOf77 rfl rfl rfl rfl)) (.inr fun _ _ _ h => (h.imp (Ls.of (.cons .k1 (.cons .k1 (.cons .k1 (.cons .k1 (.cons .k1 .nil))))))).ro (Rs.cons Mm.m0 Rs.nil)) fun _ _ => .dnil <| .then ?_
              refine .seq <| .reg rfl <| .opp (P.fa .g1 fa_83_0 rfl) rfl <| .op (V.ld (v := N a1.From) .t0 .k4 (.one isAgg3 rfl)) rfl <| .opp (P.fa .g3 fa_90_4 rfl) rfl ?_
              obtain ⟨x26, hx27, h⟩ := bnd_eq h
              obtain ⟨i28, hi29, hx27⟩ := at_eq hx27
              have hi29_ : (a1.From).toNat = i28 := by rw [hi29]; rfl
              refine .opp (P.iad (i := i28) (off' := (130 + i28 * 1)) .g1 hi29 .t0 runUnderlying87 sizeOf3 (lt_of_get hx27) rfl) rfl <| .op (V.ld (v := N x26) .t0 .k0 (by rcases i28 with _ | _ | _ | _ | _ | _ | _ | _ | _ <;> first | (obtain rfl := Option.some.inj hx27; exact LdV.one isAgg3 rfl) | (cases hx27; done))) rfl <| .opp (P.bin .t0 .k .add) rfl <| .opp (P.fa .g4 fa_90_4 rfl) rfl ?_
              obtain ⟨x30, hx31, h⟩ := bnd_eq h
              obtain ⟨i32, hi33, hx31⟩ := at_eq hx31
              have hi33_ : (a1.From).toNat = i32 := by rw [hi33]; rfl
              refine .opp (P.iad (i := i32) (off' := (130 + i32 * 1)) .t2 hi33 .t0 runUnderlying87 sizeOf3 (lt_of_get hx31) rfl) rfl <| .opg (G.str (cs' := (escrow_State.cs ⟨a0.Side, a0.Time, r16.1, a0.Vault, A8_i64.set a0.Nonces i32 (IntKind.i64.wrap (x26 + 1)), a0.Held, (wide_Add a0.Burnt (wide_Of 1)).1, r4⟩ u6)) .t1 .t0 .k0 (by rcases i32 with _ | _ | _ | _ | _ | _ | _ | _ | _ <;> first | (obtain rfl := Option.some.inj hx31; exact StV.mk sizeOf3 rfl rfl rfl rfl) | (cases hx31; done))) rfl fun _ _ => .conseq .k0 (q := blk b1 90 (escrow_State.cs ⟨a0.Side, a0.Time, r16.1, a0.Vault, A8_i64.set a0.Nonces (a1.From).toNat (IntKind.i64.wrap (x26 + 1)), a0.Held, (wide_Add a0.Burnt (wide_Of 1)).1, r4⟩ u6)) (fun _ h_ => by rw [hi33_]; first | exact h_ | (simp only [hi33_] at h_; exact h_)) <| .nil <| .then <| .seq <| .reg rfl <| .op (V.ld (v := Ag (escrow_State.cs ⟨a0.Side, a0.Time, r16.1, a0.Vault, A8_i64.set a0.Nonces (a1.From).toNat (IntKind.i64.wrap (x26 + 1)), a0.Held, (wide_Add a0.Burnt (wide_Of 1)).1, r4⟩ u6)) .t2 .k0 (.agg isAgg90 sizeOf90 rfl rfl)) rfl <| .op (V.ld (v := Ag (api_Tx.cs a1)) .t2 .k4 (.agg isAgg83 sizeOf83 rfl rfl)) rfl ?_
              obtain ⟨r34, hr35, h⟩ := bnd_eq h
              refine .opg (G.call call133 (.cons .t1 (.cons .t0 .nil)) (S_escrow_State_try (⟨a0.Side, a0.Time, r16.1, a0.Vault, A8_i64.set a0.Nonces (a1.From).toNat (IntKind.i64.wrap (x26 + 1)), a0.Held, (wide_Add a0.Burnt (wide_Of 1)).1, r4⟩ : escrow_State) u6 a1 r34 hr35) (.cons .k5 .nil) .nil (fun _ _ => rfl) (fun _ _ => rfl) rfl) rfl fun u36 _ => .opp (P.mov .t0) rfl <| .opp (P.ext (v := Ag (escrow_State.cs r34.1 u36)) .g0 rfl) rfl <| .opp (P.ext (v := N r34.2) .t1 rfl) rfl <| .opx (X.alc (cs := (escrow_State.cs ⟨0, 0, ⟨⟨⟨0, 0, 0, 0⟩, ⟨0, 0, 0, 0⟩⟩, ⟨⟨0, 0, 0, 0⟩, ⟨0, 0, 0, 0⟩⟩, ⟨⟨0, 0, 0, 0⟩, ⟨0, 0, 0, 0⟩⟩, ⟨⟨0, 0, 0, 0⟩, ⟨0, 0, 0, 0⟩⟩, ⟨⟨0, 0, 0, 0⟩, ⟨0, 0, 0, 0⟩⟩, ⟨⟨0, 0, 0, 0⟩, ⟨0, 0, 0, 0⟩⟩, ⟨⟨0, 0, 0, 0⟩, ⟨0, 0, 0, 0⟩⟩, ⟨⟨0, 0, 0, 0⟩, ⟨0, 0, 0, 0⟩⟩⟩, ⟨⟨⟨0, 0, 0, 0⟩, ⟨0, 0, 0, 0⟩⟩, ⟨⟨0, 0, 0, 0⟩, ⟨0, 0, 0, 0⟩⟩, ⟨⟨0, 0, 0, 0⟩, ⟨0, 0, 0, 0⟩⟩, ⟨⟨0, 0, 0, 0⟩, ⟨0, 0, 0, 0⟩⟩, ⟨⟨0, 0, 0, 0⟩, ⟨0, 0, 0, 0⟩⟩, ⟨⟨0, 0, 0, 0⟩, ⟨0, 0, 0, 0⟩⟩, ⟨⟨0, 0, 0, 0⟩, ⟨0, 0, 0, 0⟩⟩, ⟨⟨0, 0, 0, 0⟩, ⟨0, 0, 0, 0⟩⟩⟩, ⟨0, 0, 0, 0, 0, 0, 0, 0⟩, ⟨⟨0, 0, 0, 0⟩, ⟨0, 0, 0, 0⟩⟩, ⟨0, 0, 0, 0⟩, []⟩ nilSl)) zeroValue90 rfl) rfl fun b37 => .onel .k1 fun ho38 => .opg (G.str .t2 .g0 .k0 (.mk (cs' := (escrow_State.cs r34.1 u36)) sizeOf90 rfl (onez_90 (r34.1 : escrow_State) ho38) rfl rfl)) rfl fun _ _ => .opp (P.asg .t1) rfl <| .nil <| .then <| .seq <| .reg rfl ?_
              refine .op (V.ld (v := Ag (escrow_State.cs r34.1 u36)) .t1 .k0 (.agg isAgg90 sizeOf90 rfl rfl)) rfl <| .opp (P.mov .t1) rfl <| .onel .k1 fun ho39 => .opg (G.str .t1 .g1 .k5 (.mk (cs' := (escrow_State.cs r34.1 u36)) sizeOf90 rfl (onez_90 (r34.1 : escrow_State) ho39) rfl rfl)) rfl fun _ _ => .opp (P.asg .t0) rfl <| .opp (P.asg .k) rfl <| .nil <| .then <| .ret ?_
              cases h
              exact .finw u36 (.r3 rfl (.cell .g2 .k0 (.agg isAgg90 sizeOf90 rfl rfl)) (.tmp .g1) (.tmp .g0)) trivial (Ls.of (.cons .k2 .nil)) .nil
attribute [irreducible] escrow_Apply
end Go.Sl
