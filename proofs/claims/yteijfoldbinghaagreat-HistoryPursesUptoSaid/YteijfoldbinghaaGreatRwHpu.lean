/- narrows/narrowslaw31.HistoryPurses: for all arguments of bulk at most 1048576 the law returns true, and they read as they did. -/
import Derived.Test.YteijfoldbinghaaGreatHpLwHpu
import Derived.Test.YteijfoldbinghaaGreatSlRowZ
import Derived.Test.YteijfoldbinghaaGreatSlTop
import Derived.Test.YteijfoldbinghaaGreatRows
import Derived.WalkKit
import Derived.ProofKit
import Derived.OpenShut
import Derived.JoinedCond
set_option linter.unusedVariables false
set_option linter.unusedSimpArgs false
namespace Go.Sl
open Go.Proofs Go.Proofs.Tryz


end Go.Sl
namespace Go.Proofs.YteijfoldbinghaaGreat.historyPurses
open Go.Sl Go.ChangeShapes Go.WideShapes Go.ChangeAt Go.RowKit
theorem bulk_length {H : Type} : ∀ l : List (DataW H), l.length ≤ Rows.uptoBulkAll l
  | [] => by simp [Rows.uptoBulkAll]
  | x :: r => by
    have := bulk_length r
    have h1 : 1 ≤ Rows.uptoBulk x := by
      cases x with
      | lit l => cases l <;> simp [Rows.uptoBulk]
      | _ => simp [Rows.uptoBulk]
    simp only [Rows.uptoBulkAll, List.length_cons]; omega
theorem bulk_slice {H : Type} {d : DataW H} {l r : List (DataW H)} (h : d = .slice l r) : l.length + 1 ≤ Rows.uptoBulk d := by
  subst h
  have := bulk_length l
  simp only [Rows.uptoBulk]; omega
theorem bulk_mem {H : Type} {x : DataW H} : ∀ {l : List (DataW H)}, x ∈ l → Rows.uptoBulk x ≤ Rows.uptoBulkAll l
  | y :: r, h => by
    simp only [Rows.uptoBulkAll]
    rcases List.mem_cons.1 h with rfl | h
    · omega
    · have := bulk_mem h; omega
def bkU {H : Type} : Bk H := ⟨Rows.uptoBulk, fun l r => by have := bulk_length l; simp only [Rows.uptoBulk]; omega, fun l r x h => by have := bulk_mem h; simp only [Rows.uptoBulk]; omega, fun l x h => by have := bulk_mem h; simp only [Rows.uptoBulk]; omega, fun b => by simp only [Rows.uptoBulk]; omega⟩
def api_Wide.wf (x : api_Wide) : Prop := (True) ∧ (True) ∧ (True) ∧ (True) ∧ True
theorem rd_30 : Rd Tryz.prog 30 api_Wide.cs api_Wide.wf := .array (e := 28) (sz := 1) (tot := 4) (by kernel_rfl) (by kernel_rfl) (by kernel_rfl) (.cons (Rd.u64 (by kernel_rfl)) (.cons (Rd.u64 (by kernel_rfl)) (.cons (Rd.u64 (by kernel_rfl)) (.cons (Rd.u64 (by kernel_rfl)) (.nil rfl))))) (fun y => ⟨y.1, y.2.1, y.2.2.1, y.2.2.2.1⟩) (fun _ => rfl) (fun _ h => h)
def api_Inv.wf (x : api_Inv) : Prop := ((Lit.int .i64 x.User).wf = true) ∧ (x.Root.size ≤ Go.maxLen) ∧ ((Lit.int .i64 x.Router).wf = true) ∧ ((Lit.int .i64 x.Send).wf = true) ∧ ((Lit.int .i64 x.Recv).wf = true) ∧ ((Lit.int .i64 x.To).wf = true) ∧ (x.Id.size ≤ Go.maxLen) ∧ True
theorem rd_32 : Rd Tryz.prog 32 api_Inv.cs api_Inv.wf := .struct (fs := [{ name := "User", type := 3, offset := 0, embedded := false, tag := "", pkgPath := "", byteOffset := 0 }, { name := "Root", type := 9, offset := 1, embedded := false, tag := "", pkgPath := "", byteOffset := 8 }, { name := "Router", type := 3, offset := 2, embedded := false, tag := "", pkgPath := "", byteOffset := 24 }, { name := "Send", type := 3, offset := 3, embedded := false, tag := "", pkgPath := "", byteOffset := 32 }, { name := "Recv", type := 3, offset := 4, embedded := false, tag := "", pkgPath := "", byteOffset := 40 }, { name := "To", type := 3, offset := 5, embedded := false, tag := "", pkgPath := "", byteOffset := 48 }, { name := "Id", type := 9, offset := 6, embedded := false, tag := "", pkgPath := "", byteOffset := 56 }]) (tot := 7) (by kernel_rfl) (by kernel_rfl) (.cons (sz := 1) rfl (by kernel_rfl) (Rd.int (k := .i64) (by kernel_rfl)) (.cons (sz := 1) rfl (by kernel_rfl) (Rd.str (by kernel_rfl)) (.cons (sz := 1) rfl (by kernel_rfl) (Rd.int (k := .i64) (by kernel_rfl)) (.cons (sz := 1) rfl (by kernel_rfl) (Rd.int (k := .i64) (by kernel_rfl)) (.cons (sz := 1) rfl (by kernel_rfl) (Rd.int (k := .i64) (by kernel_rfl)) (.cons (sz := 1) rfl (by kernel_rfl) (Rd.int (k := .i64) (by kernel_rfl)) (.cons (sz := 1) rfl (by kernel_rfl) (Rd.str (by kernel_rfl)) (.nil rfl)))))))) (fun y => ⟨y.1, y.2.1, y.2.2.1, y.2.2.2.1, y.2.2.2.2.1, y.2.2.2.2.2.1, y.2.2.2.2.2.2.1⟩) (fun _ => rfl) (fun _ h => h)
def api_Var.wf (x : api_Var) : Prop := (api_Wide.wf x.Amount) ∧ ((Lit.int .i64 x.Expiry).wf = true) ∧ True
theorem rd_34 : Rd Tryz.prog 34 api_Var.cs api_Var.wf := .struct (fs := [{ name := "Amount", type := 30, offset := 0, embedded := false, tag := "", pkgPath := "", byteOffset := 0 }, { name := "Expiry", type := 3, offset := 4, embedded := false, tag := "", pkgPath := "", byteOffset := 32 }]) (tot := 5) (by kernel_rfl) (by kernel_rfl) (.cons (sz := 4) rfl (by kernel_rfl) (rd_30) (.cons (sz := 1) rfl (by kernel_rfl) (Rd.int (k := .i64) (by kernel_rfl)) (.nil rfl))) (fun y => ⟨y.1, y.2.1⟩) (fun _ => rfl) (fun _ h => h)
def api_Tx.wf (x : api_Tx) : Prop := ((Lit.int .i64 x.From).wf = true) ∧ ((Lit.int .i64 x.Nonce).wf = true) ∧ ((Lit.int .i64 x.Kind).wf = true) ∧ ((Lit.int .i64 x.Asset).wf = true) ∧ (api_Wide.wf x.Amount) ∧ (api_Inv.wf x.Inv) ∧ (api_Var.wf x.Var) ∧ (api_Wide.wf x.Fee) ∧ (x.Sig.size ≤ Go.maxLen) ∧ True
theorem rd_36 : Rd Tryz.prog 36 api_Tx.cs api_Tx.wf := .struct (fs := [{ name := "From", type := 3, offset := 0, embedded := false, tag := "", pkgPath := "", byteOffset := 0 }, { name := "Nonce", type := 3, offset := 1, embedded := false, tag := "", pkgPath := "", byteOffset := 8 }, { name := "Kind", type := 3, offset := 2, embedded := false, tag := "", pkgPath := "", byteOffset := 16 }, { name := "Asset", type := 3, offset := 3, embedded := false, tag := "", pkgPath := "", byteOffset := 24 }, { name := "Amount", type := 30, offset := 4, embedded := false, tag := "", pkgPath := "", byteOffset := 32 }, { name := "Inv", type := 32, offset := 8, embedded := false, tag := "", pkgPath := "", byteOffset := 64 }, { name := "Var", type := 34, offset := 15, embedded := false, tag := "", pkgPath := "", byteOffset := 136 }, { name := "Fee", type := 30, offset := 20, embedded := false, tag := "", pkgPath := "", byteOffset := 176 }, { name := "Sig", type := 9, offset := 24, embedded := false, tag := "", pkgPath := "", byteOffset := 208 }]) (tot := 25) (by kernel_rfl) (by kernel_rfl) (.cons (sz := 1) rfl (by kernel_rfl) (Rd.int (k := .i64) (by kernel_rfl)) (.cons (sz := 1) rfl (by kernel_rfl) (Rd.int (k := .i64) (by kernel_rfl)) (.cons (sz := 1) rfl (by kernel_rfl) (Rd.int (k := .i64) (by kernel_rfl)) (.cons (sz := 1) rfl (by kernel_rfl) (Rd.int (k := .i64) (by kernel_rfl)) (.cons (sz := 4) rfl (by kernel_rfl) (rd_30) (.cons (sz := 7) rfl (by kernel_rfl) (rd_32) (.cons (sz := 5) rfl (by kernel_rfl) (rd_34) (.cons (sz := 4) rfl (by kernel_rfl) (rd_30) (.cons (sz := 1) rfl (by kernel_rfl) (Rd.str (by kernel_rfl)) (.nil rfl)))))))))) (fun y => ⟨y.1, y.2.1, y.2.2.1, y.2.2.2.1, y.2.2.2.2.1, y.2.2.2.2.2.1, y.2.2.2.2.2.2.1, y.2.2.2.2.2.2.2.1, y.2.2.2.2.2.2.2.2.1⟩) (fun _ => rfl) (fun _ h => h)
theorem own : ownKnob Tryz.prog.godebug = none := by kernel_rfl
theorem rowkids : Kids Tryz.prog (· < Tryz.prog.types.size) := kids_rows (by kernel_rfl) (by kernel_rfl)
theorem rowfull : ∀ t e, t < Tryz.prog.types.size → Tryz.prog.underlying t = some (.slice e) → 0 < Tryz.prog.cellsOf e := slices_full_of Tryz.prog (by kernel_rfl)
set_option maxRecDepth 100000 in
theorem contract (H : Type) (enc : TypeId × Value → H) (W : World) (base : Nat) (args : Array Value) (ds gs : List (DataW H)) (before : List MemPlace)
    (hval : ∀ (j : Nat) t v, Tryz.f5.params[j]? = some t → args[j]? = some v → Value.okWide Tryz.prog W .any base t v)
    (hW : DataW.Whole enc Tryz.prog Tryz.f5.params.toList Rows.historyPursesSpec.vars false W args.toList ds gs before) (hk : Rows.uptoSmall H (ds ++ gs) = true) :
    Calls Tryz.prog 5 args W fun e W' => ∃ v, e = .returned v ∧ Rows.historyPursesSpec.post enc Tryz.prog Tryz.f5 false true false false W args v W' := by
  have hW' := hW
  obtain ⟨p, q, hA, hV, rfl, hfz, hnd⟩ := hW
  rw [Tryz.params5] at hA hval
  obtain ⟨v0, vs0, d0, ds0, p0, q0, hargs, rfl, rfl, h0, r0⟩ := trodAll_cons hA
  obtain ⟨v1, vs1, d1, ds1, p1, q1, rfl, rfl, rfl, h1, r1⟩ := trodAll_cons r0
  obtain ⟨v2, vs2, d2, ds2, p2, q2, rfl, rfl, rfl, h2, r2⟩ := trodAll_cons r1
  obtain ⟨v3, vs3, d3, ds3, p3, q3, rfl, rfl, rfl, h3, r3⟩ := trodAll_cons r2
  obtain ⟨rfl, rfl, rfl⟩ := trodAll_nil r3
  obtain rfl : args = #[v0, v1, v2, v3] := by cases args; simp_all
  obtain ⟨rfl, rfl⟩ := trodVars_none hV
  simp only [List.append_nil] at hW'
  have hbulk := of_decide_eq_true hk
  simp only [Rows.uptoBulkAll, List.append_nil, List.cons_append, List.nil_append] at hbulk
  obtain ⟨a0, rfl, rfl, rfl, w0⟩ := open_int Tryz.underlying3 (hval 0 3 v0 rfl rfl) h0
  obtain ⟨a1, rfl, rfl, rfl, w1⟩ := open_int Tryz.underlying3 (hval 1 3 v1 rfl rfl) h1
  obtain ⟨a2, len2, cap2, rfl⟩ := okWide_slice Tryz.underlying22 (hval 2 22 v2 rfl rfl)
  obtain ⟨fu2, hf2⟩ := h2
  obtain ⟨xs2, hl2, hwf2, hr2, hd2⟩ := open_list (C := api_Tx.cs) (sz := 25) Tryz.underlying22 (by kernel_rfl) (by decide) (fun _ => rfl) (rd_36) hf2
  have hb2 : xs2.length ≤ 1048576 := by
    rcases hd2 with ⟨_, h0⟩ | ⟨l, r, hl, hll⟩
    · omega
    · simp only at hl
      have := bulk_slice hl
      omega
  obtain ⟨k2, hk2, hi2⟩ := hr2 (by omega)
  obtain ⟨a3, len3, cap3, rfl⟩ := okWide_slice Tryz.underlying23 (hval 3 23 v3 rfl rfl)
  obtain ⟨fu3, hf3⟩ := h3
  obtain ⟨xs3, hl3, hwf3, hr3, hd3⟩ := open_list (C := (fun x => [N x])) (sz := 1) Tryz.underlying23 (by kernel_rfl) (by decide) (fun _ => rfl) (Rd.int (k := .i64) (by kernel_rfl)) hf3
  have hb3 : xs3.length ≤ 1048576 := by
    rcases hd3 with ⟨_, h0⟩ | ⟨l, r, hl, hll⟩
    · omega
    · simp only at hl
      have := bulk_slice hl
      omega
  obtain ⟨k3, hk3, hi3⟩ := hr3 (by omega)
  obtain ⟨r, hrun, rfl⟩ := HistoryPurses_true a0 a1 xs2 xs3 hb2 hb3
  refine law_post rfl hW' rowkids rowfull (by rw [Tryz.params5]; decide) rfl rfl rfl rfl Tryz.underlying4 ?_
  refine (SpecF.top (S_narrowslaw31_HistoryPurses a0 a1 _ xs2 _ xs3 _ hrun) ?_).mono fun e W' ⟨⟨_, _, he⟩, hkp⟩ => ⟨he, hkp⟩
  intro r hr
  simp only [List.mem_cons, List.not_mem_nil, or_false] at hr
  rcases hr with rfl | rfl
  · exact ⟨k2, hk2, hi2⟩
  · exact ⟨k3, hk3, hi3⟩
set_option maxRecDepth 100000 in
theorem lifted (os : Os) (started : os.Started) (H : Type) (enc : TypeId × Value → H) (F : Stop.Interp) :
    ReturnsInHanded {} Tryz.checked os 5 .any ((Rows.OpenSpec.upto Rows.historyPursesSpec).pre6 enc Tryz.prog Tryz.f5 Rows.historyPursesUptoRow.domain false) (((Rows.OpenSpec.upto Rows.historyPursesSpec).at F).post enc Tryz.prog Tryz.f5 false true false false) := by
  refine returnsInHanded_of_cond (C := Tryz.checked) (s := Rows.OpenSpec.upto Rows.historyPursesSpec) (k := Rows.uptoSmall) rfl own started (by kernel_rfl) Tryz.func5
    (OpenSpec.witness (enc := enc) (C := Tryz.checked) (s := Rows.OpenSpec.upto Rows.historyPursesSpec) (k := Rows.uptoSmall) rfl false ⟨#[], #[.int .i64 0, .int .i64 0, .slice none 0 0, .slice none 0 0], []⟩ 8 (by kernel_rfl) (by kernel_rfl) (by kernel_rfl)
      (x := ([.lit (.int .i64 0), .lit (.int .i64 0), .nil, .nil], [], [])) (by kernel_rfl) rfl (by kernel_rfl)) ?_
  intro W base args ds gs before hval hW _ hk _
  exact contract H enc W base args ds gs before hval hW hk
theorem over : Rows.historyPursesUptoRow.holds Tryz.pinned (Rows.OpenSpec.upto Rows.historyPursesSpec) :=
  OpenClaim.holds_of_cond 5 Tryz.f5 rfl rfl rfl rfl rfl rfl rfl ⟨rfl, rfl, rfl, rfl, rfl⟩ rfl rfl rfl rfl rfl (by kernel_rfl) Tryz.func5 (by kernel_rfl)
    (of_decide_eq_true (by kernel_rfl)) (by unfold Func.isWrapper; first | (rw [if_pos (by decide +kernel)]; kernel_rfl) | (rw [if_neg (by decide +kernel)]; exact ⟨rfl, rfl⟩))
    (fun os started H enc _ F => lifted os started H enc F)
/-- narrows/narrowslaw31.HistoryPurses: whatever the arguments of bulk at most 1048576, it returns true, and they read as they did. -/
theorem proved : Rows.HistoryPursesUptoSaid := over
end Go.Proofs.YteijfoldbinghaaGreat.historyPurses
