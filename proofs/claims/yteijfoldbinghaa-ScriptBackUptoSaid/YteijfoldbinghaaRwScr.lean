/- narrows/narrowslaw25.ScriptBack: for all arguments of bulk at most 1048576 the law returns true, and they read as they did. -/
import Derived.Test.YteijfoldbinghaaLaLwScr
import Derived.Test.YteijfoldbinghaaSlRowZ
import Derived.Test.YteijfoldbinghaaSlTop
import Derived.Test.YteijfoldbinghaaRows
import Derived.WalkKit
import Derived.ProofKit
import Derived.OpenShut
import Derived.JoinedCond
set_option linter.unusedVariables false
set_option linter.unusedSimpArgs false
namespace Go.Sl
open Go.Proofs Go.Proofs.Try


end Go.Sl
namespace Go.Proofs.Yteijfoldbinghaa.scriptBack
open Go.Sl Go.ChangeShapes Go.WideShapes Go.ChangeAt Go.RowKit
theorem bulk_length {H : Type} : ∀ l : List (DataW H), l.length ≤ Rows.uptoBulkAll l
  | [] => by simp [Rows.uptoBulkAll]
  | x :: r => by
    have := bulk_length r
    have h1 : 1 ≤ Rows.uptoBulk x := by
      cases x with
      | lit l => cases l <;> simp [Rows.uptoBulk]
      | _ => simp [Rows.uptoBulk]
    simp only [Rows.uptoBulkAll, List.length_cons]; omega
theorem bulk_slice {H : Type} {d : DataW H} {l r : List (DataW H)} (h : d = .slice l r) : l.length + 1 ≤ Rows.uptoBulk d := by
  subst h
  have := bulk_length l
  simp only [Rows.uptoBulk]; omega
theorem bulk_mem {H : Type} {x : DataW H} : ∀ {l : List (DataW H)}, x ∈ l → Rows.uptoBulk x ≤ Rows.uptoBulkAll l
  | y :: r, h => by
    simp only [Rows.uptoBulkAll]
    rcases List.mem_cons.1 h with rfl | h
    · omega
    · have := bulk_mem h; omega
def bkU {H : Type} : Bk H := ⟨Rows.uptoBulk, fun l r => by have := bulk_length l; simp only [Rows.uptoBulk]; omega, fun l r x h => by have := bulk_mem h; simp only [Rows.uptoBulk]; omega, fun l x h => by have := bulk_mem h; simp only [Rows.uptoBulk]; omega, fun b => by simp only [Rows.uptoBulk]; omega⟩
def api_Step.wfz (N : Nat) (x : api_Step) : Prop := ((Lit.int .i64 x.Kind).wf = true) ∧ ((Lit.int .i64 x.A).wf = true) ∧ ((Lit.int .i64 x.B).wf = true) ∧ ((Lit.int .i64 x.C).wf = true) ∧ (x.Data.length ≤ N ∧ ∀ q ∈ x.Data, True) ∧ True
def api_Step.gz (x : api_Step) (z : Unit × Unit × Unit × Unit × Value × Unit) (w : World) : Prop := True ∧ True ∧ True ∧ True ∧ (∃ k : Hp, rows 1 z.2.2.2.2.1 (x.Data.map (fun x => [B8 x])) k ∧ k.In w) ∧ True
theorem rdz_123 : RdZ Try.prog 123 (fun (x : api_Step) (z : Unit × Unit × Unit × Unit × Value × Unit) => api_Step.cs x (z.2.2.2.2.1)) api_Step.wfz api_Step.gz := .struct (fs := [{ name := "Kind", type := 3, offset := 0, embedded := false, tag := "", pkgPath := "", byteOffset := 0 }, { name := "A", type := 3, offset := 1, embedded := false, tag := "", pkgPath := "", byteOffset := 8 }, { name := "B", type := 3, offset := 2, embedded := false, tag := "", pkgPath := "", byteOffset := 16 }, { name := "C", type := 3, offset := 3, embedded := false, tag := "", pkgPath := "", byteOffset := 24 }, { name := "Data", type := 44, offset := 4, embedded := false, tag := "", pkgPath := "", byteOffset := 32 }]) (tot := 5) (by kernel_rfl) (by kernel_rfl) (.cons (sz := 1) rfl (by kernel_rfl) (RdZ.of (Rd.int (k := .i64) (by kernel_rfl))) (.cons (sz := 1) rfl (by kernel_rfl) (RdZ.of (Rd.int (k := .i64) (by kernel_rfl))) (.cons (sz := 1) rfl (by kernel_rfl) (RdZ.of (Rd.int (k := .i64) (by kernel_rfl))) (.cons (sz := 1) rfl (by kernel_rfl) (RdZ.of (Rd.int (k := .i64) (by kernel_rfl))) (.cons (sz := 1) rfl (by kernel_rfl) (RdZ.slice (e := 5) (C := (fun x => [B8 x])) (by kernel_rfl) (by kernel_rfl) rfl (fun _ => rfl) (Rd.u8 (by kernel_rfl))) (.nil rfl)))))) (fun y => ⟨y.1, y.2.1, y.2.2.1, y.2.2.2.1, y.2.2.2.2.1⟩) (fun _ _ => rfl) (fun _ _ h => h) (fun _ _ _ h => h)
theorem own : ownKnob Try.prog.godebug = none := by kernel_rfl
theorem rowkids : Kids Try.prog (· < Try.prog.types.size) := kids_rows (by kernel_rfl) (by kernel_rfl)
theorem rowfull : ∀ t e, t < Try.prog.types.size → Try.prog.underlying t = some (.slice e) → 0 < Try.prog.cellsOf e := slices_full_of Try.prog (by kernel_rfl)
set_option maxRecDepth 100000 in
theorem contract (H : Type) (enc : TypeId × Value → H) (W : World) (base : Nat) (args : Array Value) (ds gs : List (DataW H)) (before : List MemPlace)
    (hval : ∀ (j : Nat) t v, Try.f4.params[j]? = some t → args[j]? = some v → Value.okWide Try.prog W .any base t v)
    (hW : DataW.Whole enc Try.prog Try.f4.params.toList Rows.scriptBackSpec.vars false W args.toList ds gs before) (hk : Rows.uptoSmall H (ds ++ gs) = true) :
    Calls Try.prog 4 args W fun e W' => ∃ v, e = .returned v ∧ Rows.scriptBackSpec.post enc Try.prog Try.f4 false true false false W args v W' := by
  have hW' := hW
  obtain ⟨p, q, hA, hV, rfl, hfz, hnd⟩ := hW
  rw [Try.params4] at hA hval
  obtain ⟨v0, vs0, d0, ds0, p0, q0, hargs, rfl, rfl, h0, r0⟩ := trodAll_cons hA
  obtain ⟨v1, vs1, d1, ds1, p1, q1, rfl, rfl, rfl, h1, r1⟩ := trodAll_cons r0
  obtain ⟨rfl, rfl, rfl⟩ := trodAll_nil r1
  obtain rfl : args = #[v0, v1] := by cases args; simp_all
  obtain ⟨rfl, rfl⟩ := trodVars_none hV
  simp only [List.append_nil] at hW'
  have hbulk := of_decide_eq_true hk
  simp only [Rows.uptoBulkAll, List.append_nil, List.cons_append, List.nil_append] at hbulk
  obtain ⟨a0, len0, cap0, rfl⟩ := okWide_slice Try.underlying43 (hval 0 43 v0 rfl rfl)
  obtain ⟨fu0, hf0⟩ := h0
  obtain ⟨ps0, hl0, hle0, hwf0, k0, hk0, hi0⟩ := open_listz (C := (fun (x : api_Step) (z : Unit × Unit × Unit × Unit × Value × Unit) => api_Step.cs x (z.2.2.2.2.1))) (sz := 5) (N := 1048576) bkU (by decide) Try.underlying43 (by kernel_rfl) (by decide) (fun _ _ => rfl) (rdz_123) hf0 (by show Rows.uptoBulk d0 ≤ _; omega)
  have hzm0 := zip_maps (ps := ps0) (D := api_Step.cs) (f := fun (z : Unit × Unit × Unit × Unit × Value × Unit) => z.2.2.2.2.1)
  have hgz0 : ∃ k : Hp, gz api_Step.g (ps0.map Prod.fst) (ps0.map fun p => (fun (z : Unit × Unit × Unit × Unit × Value × Unit) => z.2.2.2.2.1) p.2) k ∧ k.In W := gz_top (by simp) fun i x z hx hz => by
    rw [List.getElem?_map] at hx hz
    cases hp : ps0[i]? with
    | none => rw [hp] at hx; cases hx
    | some p =>
      rw [hp] at hx hz; cases hx; cases hz
      have hg := (hwf0 p (List.mem_of_getElem? hp)).2
      exact hg.2.2.2.2.1
  obtain ⟨a1, len1, cap1, rfl⟩ := okWide_slice Try.underlying44 (hval 1 44 v1 rfl rfl)
  obtain ⟨fu1, hf1⟩ := h1
  obtain ⟨xs1, hl1, hwf1, hr1, hd1⟩ := open_list (C := (fun x => [B8 x])) (sz := 1) Try.underlying44 (by kernel_rfl) (by decide) (fun _ => rfl) (Rd.u8 (by kernel_rfl)) hf1
  have hb1 : xs1.length ≤ 1048576 := by
    rcases hd1 with ⟨_, h0⟩ | ⟨l, r, hl, hll⟩
    · omega
    · simp only at hl
      have := bulk_slice hl
      omega
  obtain ⟨k1, hk1, hi1⟩ := hr1 (by omega)
  obtain ⟨r, hrun, rfl⟩ := ScriptBack_true (ps0.map Prod.fst) xs1 (by simpa [hl0] using hle0) (fun x hx => by obtain ⟨p, hp, rfl⟩ := List.mem_map.1 hx; exact ((hwf0 p hp).1.2.2.2.2.1).1) hb1
  refine law_post rfl hW' rowkids rowfull (by rw [Try.params4]; decide) rfl rfl rfl rfl Try.underlying4 ?_
  refine (SpecF.top (S_narrowslaw25_ScriptBack _ (ps0.map Prod.fst) (ps0.map fun p => (fun (z : Unit × Unit × Unit × Unit × Value × Unit) => z.2.2.2.2.1) p.2) _ xs1 _ hrun) ?_).mono fun e W' ⟨⟨_, _, he⟩, hkp⟩ => ⟨he, hkp⟩
  intro r hr
  simp only [List.mem_cons, List.not_mem_nil, or_false] at hr
  rcases hr with rfl | rfl | rfl
  · exact ⟨k0, by rw [hzm0]; exact hk0, hi0⟩
  · exact hgz0
  · exact ⟨k1, hk1, hi1⟩
set_option maxRecDepth 100000 in
theorem lifted (os : Os) (started : os.Started) (H : Type) (enc : TypeId × Value → H) (F : Stop.Interp) :
    ReturnsInHanded {} Try.checked os 4 .any ((Rows.OpenSpec.upto Rows.scriptBackSpec).pre6 enc Try.prog Try.f4 Rows.scriptBackUptoRow.domain false) (((Rows.OpenSpec.upto Rows.scriptBackSpec).at F).post enc Try.prog Try.f4 false true false false) := by
  refine returnsInHanded_of_cond (C := Try.checked) (s := Rows.OpenSpec.upto Rows.scriptBackSpec) (k := Rows.uptoSmall) rfl own started (by kernel_rfl) Try.func4
    (OpenSpec.witness (enc := enc) (C := Try.checked) (s := Rows.OpenSpec.upto Rows.scriptBackSpec) (k := Rows.uptoSmall) rfl false ⟨#[], #[.slice none 0 0, .slice none 0 0], []⟩ 8 (by kernel_rfl) (by kernel_rfl) (by kernel_rfl)
      (x := ([.nil, .nil], [], [])) (by kernel_rfl) rfl (by kernel_rfl)) ?_
  intro W base args ds gs before hval hW _ hk _
  exact contract H enc W base args ds gs before hval hW hk
theorem over : Rows.scriptBackUptoRow.holds Try.pinned (Rows.OpenSpec.upto Rows.scriptBackSpec) :=
  OpenClaim.holds_of_cond 4 Try.f4 rfl rfl rfl rfl rfl rfl rfl ⟨rfl, rfl, rfl, rfl, rfl⟩ rfl rfl rfl rfl rfl (by kernel_rfl) Try.func4 (by kernel_rfl)
    (of_decide_eq_true (by kernel_rfl)) (by unfold Func.isWrapper; first | (rw [if_pos (by decide +kernel)]; kernel_rfl) | (rw [if_neg (by decide +kernel)]; exact ⟨rfl, rfl⟩))
    (fun os started H enc _ F => lifted os started H enc F)
/-- narrows/narrowslaw25.ScriptBack: whatever the arguments of bulk at most 1048576, it returns true, and they read as they did. -/
theorem proved : Rows.ScriptBackUptoSaid := over
end Go.Proofs.Yteijfoldbinghaa.scriptBack
