/- narrows/narrowslaw25.ScriptRefuses: for all arguments of bulk at most 1048576 the law returns true, and they read as they did. -/
import Derived.Test.YtdkjcjicnnegkaaGreatSrLwSrf
import Derived.Test.YtdkjcjicnnegkaaGreatRwSrJ
import Derived.Test.YtdkjcjicnnegkaaGreatSlRowZ
import Derived.Test.YtdkjcjicnnegkaaGreatSlTop
import Derived.Test.YtdkjcjicnnegkaaGreatRows
import Derived.WalkKit
import Derived.ProofKit
import Derived.OpenShut
import Derived.JoinedCond
set_option linter.unusedVariables false
set_option linter.unusedSimpArgs false
namespace Go.Sl
open Go.Proofs Go.Proofs.Tryz


end Go.Sl
namespace Go.Proofs.YtdkjcjicnnegkaaGreat.scriptRefuses
open Go.Sl Go.ChangeShapes Go.WideShapes Go.ChangeAt Go.RowKit
theorem bulk_length {H : Type} : ∀ l : List (DataW H), l.length ≤ Rows.uptoBulkAll l
  | [] => by simp [Rows.uptoBulkAll]
  | x :: r => by
    have := bulk_length r
    have h1 : 1 ≤ Rows.uptoBulk x := by
      cases x with
      | lit l => cases l <;> simp [Rows.uptoBulk]
      | _ => simp [Rows.uptoBulk]
    simp only [Rows.uptoBulkAll, List.length_cons]; omega
theorem bulk_slice {H : Type} {d : DataW H} {l r : List (DataW H)} (h : d = .slice l r) : l.length + 1 ≤ Rows.uptoBulk d := by
  subst h
  have := bulk_length l
  simp only [Rows.uptoBulk]; omega
theorem bulk_mem {H : Type} {x : DataW H} : ∀ {l : List (DataW H)}, x ∈ l → Rows.uptoBulk x ≤ Rows.uptoBulkAll l
  | y :: r, h => by
    simp only [Rows.uptoBulkAll]
    rcases List.mem_cons.1 h with rfl | h
    · omega
    · have := bulk_mem h; omega
def bkU {H : Type} : Bk H := ⟨Rows.uptoBulk, fun l r => by have := bulk_length l; simp only [Rows.uptoBulk]; omega, fun l r x h => by have := bulk_mem h; simp only [Rows.uptoBulk]; omega, fun l x h => by have := bulk_mem h; simp only [Rows.uptoBulk]; omega, fun b => by simp only [Rows.uptoBulk]; omega⟩
def api_Step.wfz (N : Nat) (x : api_Step) : Prop := ((Lit.int .i64 x.Kind).wf = true) ∧ ((Lit.int .i64 x.A).wf = true) ∧ ((Lit.int .i64 x.B).wf = true) ∧ ((Lit.int .i64 x.C).wf = true) ∧ (x.Data.length ≤ N ∧ ∀ q ∈ x.Data, True) ∧ True
def api_Step.gz (x : api_Step) (z : Unit × Unit × Unit × Unit × Value × Unit) (w : World) : Prop := True ∧ True ∧ True ∧ True ∧ (∃ k : Hp, rows 1 z.2.2.2.2.1 (x.Data.map (fun x => [B8 x])) k ∧ k.In w) ∧ True
theorem rdz_70 : RdZ Tryz.prog 70 (fun (x : api_Step) (z : Unit × Unit × Unit × Unit × Value × Unit) => api_Step.cs x (z.2.2.2.2.1)) api_Step.wfz api_Step.gz := .struct (fs := [{ name := "Kind", type := 3, offset := 0, embedded := false, tag := "", pkgPath := "", byteOffset := 0 }, { name := "A", type := 3, offset := 1, embedded := false, tag := "", pkgPath := "", byteOffset := 8 }, { name := "B", type := 3, offset := 2, embedded := false, tag := "", pkgPath := "", byteOffset := 16 }, { name := "C", type := 3, offset := 3, embedded := false, tag := "", pkgPath := "", byteOffset := 24 }, { name := "Data", type := 68, offset := 4, embedded := false, tag := "", pkgPath := "", byteOffset := 32 }]) (tot := 5) (by kernel_rfl) (by kernel_rfl) (.cons (sz := 1) rfl (by kernel_rfl) (RdZ.of (Rd.int (k := .i64) (by kernel_rfl))) (.cons (sz := 1) rfl (by kernel_rfl) (RdZ.of (Rd.int (k := .i64) (by kernel_rfl))) (.cons (sz := 1) rfl (by kernel_rfl) (RdZ.of (Rd.int (k := .i64) (by kernel_rfl))) (.cons (sz := 1) rfl (by kernel_rfl) (RdZ.of (Rd.int (k := .i64) (by kernel_rfl))) (.cons (sz := 1) rfl (by kernel_rfl) (RdZ.slice (e := 5) (C := (fun x => [B8 x])) (by kernel_rfl) (by kernel_rfl) rfl (fun _ => rfl) (Rd.u8 (by kernel_rfl))) (.nil rfl)))))) (fun y => ⟨y.1, y.2.1, y.2.2.1, y.2.2.2.1, y.2.2.2.2.1⟩) (fun _ _ => rfl) (fun _ _ h => h) (fun _ _ _ h => h)
theorem own : ownKnob Tryz.prog.godebug = none := by kernel_rfl
theorem rowkids : Kids Tryz.prog (· < Tryz.prog.types.size) := kids_rows (by kernel_rfl) (by kernel_rfl)
theorem rowfull : ∀ t e, t < Tryz.prog.types.size → Tryz.prog.underlying t = some (.slice e) → 0 < Tryz.prog.cellsOf e := slices_full_of Tryz.prog (by kernel_rfl)
set_option maxRecDepth 100000 in
theorem contract (H : Type) (enc : TypeId × Value → H) (W : World) (base : Nat) (args : Array Value) (ds gs : List (DataW H)) (before : List MemPlace)
    (hval : ∀ (j : Nat) t v, Tryz.f6.params[j]? = some t → args[j]? = some v → Value.okWide Tryz.prog W .any base t v)
    (hW : DataW.Whole enc Tryz.prog Tryz.f6.params.toList Rows.scriptRefusesSpec.vars false W args.toList ds gs before) (hk : Rows.uptoSmall H (ds ++ gs) = true) :
    Calls Tryz.prog 6 args W fun e W' => ∃ v, e = .returned v ∧ Rows.scriptRefusesSpec.post enc Tryz.prog Tryz.f6 false true false false W args v W' := by
  have hW' := hW
  obtain ⟨p, q, hA, hV, rfl, hfz, hnd⟩ := hW
  rw [Tryz.params6] at hA hval
  obtain ⟨v0, vs0, d0, ds0, p0, q0, hargs, rfl, rfl, h0, r0⟩ := trodAll_cons hA
  obtain ⟨v1, vs1, d1, ds1, p1, q1, rfl, rfl, rfl, h1, r1⟩ := trodAll_cons r0
  obtain ⟨v2, vs2, d2, ds2, p2, q2, rfl, rfl, rfl, h2, r2⟩ := trodAll_cons r1
  obtain ⟨rfl, rfl, rfl⟩ := trodAll_nil r2
  obtain rfl : args = #[v0, v1, v2] := by cases args; simp_all
  obtain ⟨rfl, rfl⟩ := trodVars_none hV
  simp only [List.append_nil] at hW'
  have hbulk := of_decide_eq_true hk
  simp only [Rows.uptoBulkAll, List.append_nil, List.cons_append, List.nil_append] at hbulk
  obtain ⟨fu0, hf0⟩ := h0
  obtain ⟨x0, z0, hx0, hwf0, hg0⟩ := rdz_70 _ enc W _ _ _ _ _ bkU 1048576 (by decide) hf0 (by show Rows.uptoBulk d0 ≤ _; omega)
  obtain ⟨c0, rfl, _⟩ := okWide_struct Tryz.underlying70 (hval 0 70 v0 rfl rfl)
  obtain rfl : c0 = ⟨api_Step.cs x0 (z0.2.2.2.2.1)⟩ := by cases c0; simpa [Value.cells] using hx0
  obtain ⟨a1, rfl, rfl, rfl, w1⟩ := open_int Tryz.underlying3 (hval 1 3 v1 rfl rfl) h1
  obtain ⟨a2, rfl, rfl, rfl, w2⟩ := open_int Tryz.underlying3 (hval 2 3 v2 rfl rfl) h2
  obtain ⟨r, hrun, rfl⟩ := ScriptRefuses_true x0 a1 a2 hwf0.2.2.2.2.1.1
  refine law_post rfl hW' rowkids rowfull (by rw [Tryz.params6]; decide) rfl rfl rfl rfl Tryz.underlying4 ?_
  refine (SpecF.top (S_narrowslaw25_ScriptRefuses x0 (z0.2.2.2.2.1) a1 a2 _ hrun) ?_).mono fun e W' ⟨⟨_, _, he⟩, hkp⟩ => ⟨he, hkp⟩
  intro r hr
  simp only [List.mem_cons, List.not_mem_nil, or_false] at hr
  subst hr; exact hg0.2.2.2.2.1
set_option maxRecDepth 100000 in
theorem lifted (os : Os) (started : os.Started) (H : Type) (enc : TypeId × Value → H) (F : Stop.Interp) :
    ReturnsInHanded {} Tryz.checked os 6 .any ((Rows.OpenSpec.upto Rows.scriptRefusesSpec).pre6 enc Tryz.prog Tryz.f6 Rows.scriptRefusesUptoRow.domain false) (((Rows.OpenSpec.upto Rows.scriptRefusesSpec).at F).post enc Tryz.prog Tryz.f6 false true false false) := by
  refine returnsInHanded_of_cond (C := Tryz.checked) (s := Rows.OpenSpec.upto Rows.scriptRefusesSpec) (k := Rows.uptoSmall) rfl own started (by kernel_rfl) Tryz.func6
    (OpenSpec.witness (enc := enc) (C := Tryz.checked) (s := Rows.OpenSpec.upto Rows.scriptRefusesSpec) (k := Rows.uptoSmall) rfl false ⟨#[], #[.agg #[.int .i64 0, .int .i64 0, .int .i64 0, .int .i64 0, .slice none 0 0], .int .i64 0, .int .i64 0], []⟩ 8 (by kernel_rfl) (by kernel_rfl) (by kernel_rfl)
      (x := ([.agg [.lit (.int .i64 0), .lit (.int .i64 0), .lit (.int .i64 0), .lit (.int .i64 0), .nil], .lit (.int .i64 0), .lit (.int .i64 0)], [], [])) (by kernel_rfl) rfl (by kernel_rfl)) ?_
  intro W base args ds gs before hval hW _ hk _
  exact contract H enc W base args ds gs before hval hW hk
theorem over : Rows.scriptRefusesUptoRow.holds Tryz.pinned (Rows.OpenSpec.upto Rows.scriptRefusesSpec) :=
  OpenClaim.holds_of_cond 6 Tryz.f6 rfl rfl rfl rfl rfl rfl rfl ⟨rfl, rfl, rfl, rfl, rfl⟩ rfl rfl rfl rfl rfl (by kernel_rfl) Tryz.func6 joined
    (of_decide_eq_true (by kernel_rfl)) (by unfold Func.isWrapper; first | (rw [if_pos (by decide +kernel)]; kernel_rfl) | (rw [if_neg (by decide +kernel)]; exact ⟨rfl, rfl⟩))
    (fun os started H enc _ F => lifted os started H enc F)
/-- narrows/narrowslaw25.ScriptRefuses: whatever the arguments of bulk at most 1048576, it returns true, and they read as they did. -/
theorem proved : Rows.ScriptRefusesUptoSaid := over
end Go.Proofs.YtdkjcjicnnegkaaGreat.scriptRefuses
