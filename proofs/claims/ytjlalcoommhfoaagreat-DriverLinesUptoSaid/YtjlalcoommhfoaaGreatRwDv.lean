/- narrows/narrowslaw34.DriverLines: for all arguments of bulk at most 1048576 the law returns true, and they read as they did. -/
import Derived.Test.YtjlalcoommhfoaaGreatDvLwDv
import Derived.Test.YtjlalcoommhfoaaGreatRwDvJ
import Derived.Test.YtjlalcoommhfoaaGreatSlRowZ
import Derived.Test.YtjlalcoommhfoaaGreatSlTop
import Derived.Test.YtjlalcoommhfoaaGreatRows
import Derived.WalkKit
import Derived.ProofKit
import Derived.OpenShut
import Derived.JoinedCond
set_option linter.unusedVariables false
set_option linter.unusedSimpArgs false
namespace Go.Sl
open Go.Proofs Go.Proofs.Tryz


end Go.Sl
namespace Go.Proofs.YtjlalcoommhfoaaGreat.driverLines
open Go.Sl Go.ChangeShapes Go.WideShapes Go.ChangeAt Go.RowKit
theorem bulk_length {H : Type} : ∀ l : List (DataW H), l.length ≤ Rows.uptoBulkAll l
  | [] => by simp [Rows.uptoBulkAll]
  | x :: r => by
    have := bulk_length r
    have h1 : 1 ≤ Rows.uptoBulk x := by
      cases x with
      | lit l => cases l <;> simp [Rows.uptoBulk]
      | _ => simp [Rows.uptoBulk]
    simp only [Rows.uptoBulkAll, List.length_cons]; omega
theorem bulk_slice {H : Type} {d : DataW H} {l r : List (DataW H)} (h : d = .slice l r) : l.length + 1 ≤ Rows.uptoBulk d := by
  subst h
  have := bulk_length l
  simp only [Rows.uptoBulk]; omega
theorem bulk_mem {H : Type} {x : DataW H} : ∀ {l : List (DataW H)}, x ∈ l → Rows.uptoBulk x ≤ Rows.uptoBulkAll l
  | y :: r, h => by
    simp only [Rows.uptoBulkAll]
    rcases List.mem_cons.1 h with rfl | h
    · omega
    · have := bulk_mem h; omega
def bkU {H : Type} : Bk H := ⟨Rows.uptoBulk, fun l r => by have := bulk_length l; simp only [Rows.uptoBulk]; omega, fun l r x h => by have := bulk_mem h; simp only [Rows.uptoBulk]; omega, fun l x h => by have := bulk_mem h; simp only [Rows.uptoBulk]; omega, fun b => by simp only [Rows.uptoBulk]; omega⟩
def A2_i64.wf (x : A2_i64) : Prop := ((Lit.int .i64 x.a0).wf = true) ∧ ((Lit.int .i64 x.a1).wf = true) ∧ True
theorem rd_36 : Rd Tryz.prog 36 A2_i64.cs A2_i64.wf := .array (e := 3) (sz := 1) (tot := 2) (by kernel_rfl) (by kernel_rfl) (by kernel_rfl) (.cons (Rd.int (k := .i64) (by kernel_rfl)) (.cons (Rd.int (k := .i64) (by kernel_rfl)) (.nil rfl))) (fun y => ⟨y.1, y.2.1⟩) (fun _ => rfl) (fun _ h => h)
def driver_Report.wf (x : driver_Report) : Prop := ((Lit.int .i64 x.Now).wf = true) ∧ (A2_i64.wf x.Events) ∧ ((Lit.int .i64 x.Mail).wf = true) ∧ ((Lit.int .i64 x.Prepared).wf = true) ∧ ((Lit.int .i64 x.Done).wf = true) ∧ (True) ∧ (True) ∧ True
theorem rd_38 : Rd Tryz.prog 38 driver_Report.cs driver_Report.wf := .struct (fs := [{ name := "Now", type := 3, offset := 0, embedded := false, tag := "", pkgPath := "", byteOffset := 0 }, { name := "Events", type := 36, offset := 1, embedded := false, tag := "", pkgPath := "", byteOffset := 8 }, { name := "Mail", type := 3, offset := 3, embedded := false, tag := "", pkgPath := "", byteOffset := 24 }, { name := "Prepared", type := 3, offset := 4, embedded := false, tag := "", pkgPath := "", byteOffset := 32 }, { name := "Done", type := 3, offset := 5, embedded := false, tag := "", pkgPath := "", byteOffset := 40 }, { name := "Well", type := 4, offset := 6, embedded := false, tag := "", pkgPath := "", byteOffset := 48 }, { name := "Solvent", type := 4, offset := 7, embedded := false, tag := "", pkgPath := "", byteOffset := 49 }]) (tot := 8) (by kernel_rfl) (by kernel_rfl) (.cons (sz := 1) rfl (by kernel_rfl) (Rd.int (k := .i64) (by kernel_rfl)) (.cons (sz := 2) rfl (by kernel_rfl) (rd_36) (.cons (sz := 1) rfl (by kernel_rfl) (Rd.int (k := .i64) (by kernel_rfl)) (.cons (sz := 1) rfl (by kernel_rfl) (Rd.int (k := .i64) (by kernel_rfl)) (.cons (sz := 1) rfl (by kernel_rfl) (Rd.int (k := .i64) (by kernel_rfl)) (.cons (sz := 1) rfl (by kernel_rfl) (Rd.bool (by kernel_rfl)) (.cons (sz := 1) rfl (by kernel_rfl) (Rd.bool (by kernel_rfl)) (.nil rfl)))))))) (fun y => ⟨y.1, y.2.1, y.2.2.1, y.2.2.2.1, y.2.2.2.2.1, y.2.2.2.2.2.1, y.2.2.2.2.2.2.1⟩) (fun _ => rfl) (fun _ h => h)
theorem own : ownKnob Tryz.prog.godebug = none := by kernel_rfl
theorem rowkids : Kids Tryz.prog (· < Tryz.prog.types.size) := kids_rows (by kernel_rfl) (by kernel_rfl)
theorem rowfull : ∀ t e, t < Tryz.prog.types.size → Tryz.prog.underlying t = some (.slice e) → 0 < Tryz.prog.cellsOf e := slices_full_of Tryz.prog (by kernel_rfl)
set_option maxRecDepth 100000 in
theorem contract (H : Type) (enc : TypeId × Value → H) (W : World) (base : Nat) (args : Array Value) (ds gs : List (DataW H)) (before : List MemPlace)
    (hval : ∀ (j : Nat) t v, Tryz.f4.params[j]? = some t → args[j]? = some v → Value.okWide Tryz.prog W .any base t v)
    (hW : DataW.Whole enc Tryz.prog Tryz.f4.params.toList Rows.driverLinesSpec.vars false W args.toList ds gs before) (hk : Rows.uptoSmall H (ds ++ gs) = true) :
    Calls Tryz.prog 4 args W fun e W' => ∃ v, e = .returned v ∧ Rows.driverLinesSpec.post enc Tryz.prog Tryz.f4 false true false false W args v W' := by
  have hW' := hW
  obtain ⟨p, q, hA, hV, rfl, hfz, hnd⟩ := hW
  rw [Tryz.params4] at hA hval
  obtain ⟨v0, vs0, d0, ds0, p0, q0, hargs, rfl, rfl, h0, r0⟩ := trodAll_cons hA
  obtain ⟨rfl, rfl, rfl⟩ := trodAll_nil r0
  obtain rfl : args = #[v0] := by cases args; simp_all
  obtain ⟨rfl, rfl⟩ := trodVars_none hV
  simp only [List.append_nil] at hW'
  have hbulk := of_decide_eq_true hk
  simp only [Rows.uptoBulkAll, List.append_nil, List.cons_append, List.nil_append] at hbulk
  obtain ⟨fu0, hf0⟩ := h0
  obtain ⟨x0, hx0, hwf0⟩ := rd_38 _ enc W _ _ _ _ _ _ hf0
  obtain ⟨c0, rfl, _⟩ := okWide_struct Tryz.underlying38 (hval 0 38 v0 rfl rfl)
  obtain rfl : c0 = ⟨driver_Report.cs x0⟩ := by cases c0; simpa [Value.cells] using hx0
  obtain ⟨r, hrun, rfl⟩ := DriverLines_true x0 
  refine law_post rfl hW' rowkids rowfull (by rw [Tryz.params4]; decide) rfl rfl rfl rfl Tryz.underlying4 ?_
  refine (SpecF.top (S_narrowslaw34_DriverLines x0 _ hrun) ?_).mono fun e W' ⟨⟨_, _, he⟩, hkp⟩ => ⟨he, hkp⟩
  intro r hr
  cases hr
set_option maxRecDepth 100000 in
theorem lifted (os : Os) (started : os.Started) (H : Type) (enc : TypeId × Value → H) (F : Stop.Interp) :
    ReturnsInHanded {} Tryz.checked os 4 .any ((Rows.OpenSpec.upto Rows.driverLinesSpec).pre6 enc Tryz.prog Tryz.f4 Rows.driverLinesUptoRow.domain false) (((Rows.OpenSpec.upto Rows.driverLinesSpec).at F).post enc Tryz.prog Tryz.f4 false true false false) := by
  refine returnsInHanded_of_cond (C := Tryz.checked) (s := Rows.OpenSpec.upto Rows.driverLinesSpec) (k := Rows.uptoSmall) rfl own started (by kernel_rfl) Tryz.func4
    (OpenSpec.witness (enc := enc) (C := Tryz.checked) (s := Rows.OpenSpec.upto Rows.driverLinesSpec) (k := Rows.uptoSmall) rfl false ⟨#[], #[.agg #[.int .i64 0, .int .i64 0, .int .i64 0, .int .i64 0, .int .i64 0, .int .i64 0, .bool false, .bool false]], []⟩ 8 (by kernel_rfl) (by kernel_rfl) (by kernel_rfl)
      (x := ([.agg [.lit (.int .i64 0), .agg [.lit (.int .i64 0), .lit (.int .i64 0)], .lit (.int .i64 0), .lit (.int .i64 0), .lit (.int .i64 0), .lit (.bool false), .lit (.bool false)]], [], [])) (by kernel_rfl) rfl (by kernel_rfl)) ?_
  intro W base args ds gs before hval hW _ hk _
  exact contract H enc W base args ds gs before hval hW hk
theorem over : Rows.driverLinesUptoRow.holds Tryz.pinned (Rows.OpenSpec.upto Rows.driverLinesSpec) :=
  OpenClaim.holds_of_cond 4 Tryz.f4 rfl rfl rfl rfl rfl rfl rfl ⟨rfl, rfl, rfl, rfl, rfl⟩ rfl rfl rfl rfl rfl (by kernel_rfl) Tryz.func4 joined
    (of_decide_eq_true (by kernel_rfl)) (by unfold Func.isWrapper; first | (rw [if_pos (by decide +kernel)]; kernel_rfl) | (rw [if_neg (by decide +kernel)]; exact ⟨rfl, rfl⟩))
    (fun os started H enc _ F => lifted os started H enc F)
/-- narrows/narrowslaw34.DriverLines: whatever the arguments of bulk at most 1048576, it returns true, and they read as they did. -/
theorem proved : Rows.DriverLinesUptoSaid := over
end Go.Proofs.YtjlalcoommhfoaaGreat.driverLines
