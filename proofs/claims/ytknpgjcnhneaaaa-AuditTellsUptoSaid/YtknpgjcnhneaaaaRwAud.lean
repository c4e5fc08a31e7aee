/- narrows/narrowslaw27.AuditTells: for all arguments of bulk at most 1048576 the law returns true, and they read as they did. -/
import Derived.Test.YtknpgjcnhneaaaaAuLwAud
import Derived.Test.YtknpgjcnhneaaaaSlRowZ
import Derived.Test.YtknpgjcnhneaaaaSlTop
import Derived.Test.YtknpgjcnhneaaaaRows
import Derived.WalkKit
import Derived.ProofKit
import Derived.OpenShut
import Derived.JoinedCond
set_option linter.unusedVariables false
set_option linter.unusedSimpArgs false
namespace Go.Sl
open Go.Proofs Go.Proofs.Try


end Go.Sl
namespace Go.Proofs.Ytknpgjcnhneaaaa.auditTells
open Go.Sl Go.ChangeShapes Go.WideShapes Go.ChangeAt Go.RowKit
theorem bulk_length {H : Type} : ∀ l : List (DataW H), l.length ≤ Rows.uptoBulkAll l
  | [] => by simp [Rows.uptoBulkAll]
  | x :: r => by
    have := bulk_length r
    have h1 : 1 ≤ Rows.uptoBulk x := by
      cases x with
      | lit l => cases l <;> simp [Rows.uptoBulk]
      | _ => simp [Rows.uptoBulk]
    simp only [Rows.uptoBulkAll, List.length_cons]; omega
theorem bulk_slice {H : Type} {d : DataW H} {l r : List (DataW H)} (h : d = .slice l r) : l.length + 1 ≤ Rows.uptoBulk d := by
  subst h
  have := bulk_length l
  simp only [Rows.uptoBulk]; omega
theorem bulk_mem {H : Type} {x : DataW H} : ∀ {l : List (DataW H)}, x ∈ l → Rows.uptoBulk x ≤ Rows.uptoBulkAll l
  | y :: r, h => by
    simp only [Rows.uptoBulkAll]
    rcases List.mem_cons.1 h with rfl | h
    · omega
    · have := bulk_mem h; omega
def bkU {H : Type} : Bk H := ⟨Rows.uptoBulk, fun l r => by have := bulk_length l; simp only [Rows.uptoBulk]; omega, fun l r x h => by have := bulk_mem h; simp only [Rows.uptoBulk]; omega, fun l x h => by have := bulk_mem h; simp only [Rows.uptoBulk]; omega, fun b => by simp only [Rows.uptoBulk]; omega⟩
def api_Wide.wf (x : api_Wide) : Prop := (True) ∧ (True) ∧ (True) ∧ (True) ∧ True
theorem rd_28 : Rd Try.prog 28 api_Wide.cs api_Wide.wf := .array (e := 26) (sz := 1) (tot := 4) (by kernel_rfl) (by kernel_rfl) (by kernel_rfl) (.cons (Rd.u64 (by kernel_rfl)) (.cons (Rd.u64 (by kernel_rfl)) (.cons (Rd.u64 (by kernel_rfl)) (.cons (Rd.u64 (by kernel_rfl)) (.nil rfl))))) (fun y => ⟨y.1, y.2.1, y.2.2.1, y.2.2.2.1⟩) (fun _ => rfl) (fun _ h => h)
def api_Inv.wf (x : api_Inv) : Prop := ((Lit.int .i64 x.User).wf = true) ∧ (x.Root.size ≤ Go.maxLen) ∧ ((Lit.int .i64 x.Router).wf = true) ∧ ((Lit.int .i64 x.Send).wf = true) ∧ ((Lit.int .i64 x.Recv).wf = true) ∧ ((Lit.int .i64 x.To).wf = true) ∧ (x.Id.size ≤ Go.maxLen) ∧ True
theorem rd_30 : Rd Try.prog 30 api_Inv.cs api_Inv.wf := .struct (fs := [{ name := "User", type := 3, offset := 0, embedded := false, tag := "", pkgPath := "", byteOffset := 0 }, { name := "Root", type := 9, offset := 1, embedded := false, tag := "", pkgPath := "", byteOffset := 8 }, { name := "Router", type := 3, offset := 2, embedded := false, tag := "", pkgPath := "", byteOffset := 24 }, { name := "Send", type := 3, offset := 3, embedded := false, tag := "", pkgPath := "", byteOffset := 32 }, { name := "Recv", type := 3, offset := 4, embedded := false, tag := "", pkgPath := "", byteOffset := 40 }, { name := "To", type := 3, offset := 5, embedded := false, tag := "", pkgPath := "", byteOffset := 48 }, { name := "Id", type := 9, offset := 6, embedded := false, tag := "", pkgPath := "", byteOffset := 56 }]) (tot := 7) (by kernel_rfl) (by kernel_rfl) (.cons (sz := 1) rfl (by kernel_rfl) (Rd.int (k := .i64) (by kernel_rfl)) (.cons (sz := 1) rfl (by kernel_rfl) (Rd.str (by kernel_rfl)) (.cons (sz := 1) rfl (by kernel_rfl) (Rd.int (k := .i64) (by kernel_rfl)) (.cons (sz := 1) rfl (by kernel_rfl) (Rd.int (k := .i64) (by kernel_rfl)) (.cons (sz := 1) rfl (by kernel_rfl) (Rd.int (k := .i64) (by kernel_rfl)) (.cons (sz := 1) rfl (by kernel_rfl) (Rd.int (k := .i64) (by kernel_rfl)) (.cons (sz := 1) rfl (by kernel_rfl) (Rd.str (by kernel_rfl)) (.nil rfl)))))))) (fun y => ⟨y.1, y.2.1, y.2.2.1, y.2.2.2.1, y.2.2.2.2.1, y.2.2.2.2.2.1, y.2.2.2.2.2.2.1⟩) (fun _ => rfl) (fun _ h => h)
def api_Var.wf (x : api_Var) : Prop := (api_Wide.wf x.Amount) ∧ ((Lit.int .i64 x.Expiry).wf = true) ∧ True
theorem rd_32 : Rd Try.prog 32 api_Var.cs api_Var.wf := .struct (fs := [{ name := "Amount", type := 28, offset := 0, embedded := false, tag := "", pkgPath := "", byteOffset := 0 }, { name := "Expiry", type := 3, offset := 4, embedded := false, tag := "", pkgPath := "", byteOffset := 32 }]) (tot := 5) (by kernel_rfl) (by kernel_rfl) (.cons (sz := 4) rfl (by kernel_rfl) (rd_28) (.cons (sz := 1) rfl (by kernel_rfl) (Rd.int (k := .i64) (by kernel_rfl)) (.nil rfl))) (fun y => ⟨y.1, y.2.1⟩) (fun _ => rfl) (fun _ h => h)
def api_Tx.wf (x : api_Tx) : Prop := ((Lit.int .i64 x.From).wf = true) ∧ ((Lit.int .i64 x.Nonce).wf = true) ∧ ((Lit.int .i64 x.Kind).wf = true) ∧ ((Lit.int .i64 x.Asset).wf = true) ∧ (api_Wide.wf x.Amount) ∧ (api_Inv.wf x.Inv) ∧ (api_Var.wf x.Var) ∧ (api_Wide.wf x.Fee) ∧ (x.Sig.size ≤ Go.maxLen) ∧ True
theorem rd_34 : Rd Try.prog 34 api_Tx.cs api_Tx.wf := .struct (fs := [{ name := "From", type := 3, offset := 0, embedded := false, tag := "", pkgPath := "", byteOffset := 0 }, { name := "Nonce", type := 3, offset := 1, embedded := false, tag := "", pkgPath := "", byteOffset := 8 }, { name := "Kind", type := 3, offset := 2, embedded := false, tag := "", pkgPath := "", byteOffset := 16 }, { name := "Asset", type := 3, offset := 3, embedded := false, tag := "", pkgPath := "", byteOffset := 24 }, { name := "Amount", type := 28, offset := 4, embedded := false, tag := "", pkgPath := "", byteOffset := 32 }, { name := "Inv", type := 30, offset := 8, embedded := false, tag := "", pkgPath := "", byteOffset := 64 }, { name := "Var", type := 32, offset := 15, embedded := false, tag := "", pkgPath := "", byteOffset := 136 }, { name := "Fee", type := 28, offset := 20, embedded := false, tag := "", pkgPath := "", byteOffset := 176 }, { name := "Sig", type := 9, offset := 24, embedded := false, tag := "", pkgPath := "", byteOffset := 208 }]) (tot := 25) (by kernel_rfl) (by kernel_rfl) (.cons (sz := 1) rfl (by kernel_rfl) (Rd.int (k := .i64) (by kernel_rfl)) (.cons (sz := 1) rfl (by kernel_rfl) (Rd.int (k := .i64) (by kernel_rfl)) (.cons (sz := 1) rfl (by kernel_rfl) (Rd.int (k := .i64) (by kernel_rfl)) (.cons (sz := 1) rfl (by kernel_rfl) (Rd.int (k := .i64) (by kernel_rfl)) (.cons (sz := 4) rfl (by kernel_rfl) (rd_28) (.cons (sz := 7) rfl (by kernel_rfl) (rd_30) (.cons (sz := 5) rfl (by kernel_rfl) (rd_32) (.cons (sz := 4) rfl (by kernel_rfl) (rd_28) (.cons (sz := 1) rfl (by kernel_rfl) (Rd.str (by kernel_rfl)) (.nil rfl)))))))))) (fun y => ⟨y.1, y.2.1, y.2.2.1, y.2.2.2.1, y.2.2.2.2.1, y.2.2.2.2.2.1, y.2.2.2.2.2.2.1, y.2.2.2.2.2.2.2.1, y.2.2.2.2.2.2.2.2.1⟩) (fun _ => rfl) (fun _ h => h)
def api_Event.wf (x : api_Event) : Prop := ((Lit.int .i64 x.Time).wf = true) ∧ ((Lit.int .i64 x.Code).wf = true) ∧ (api_Tx.wf x.Tx) ∧ True
theorem rd_36 : Rd Try.prog 36 api_Event.cs api_Event.wf := .struct (fs := [{ name := "Time", type := 3, offset := 0, embedded := false, tag := "", pkgPath := "", byteOffset := 0 }, { name := "Code", type := 25, offset := 1, embedded := false, tag := "", pkgPath := "", byteOffset := 8 }, { name := "Tx", type := 34, offset := 2, embedded := false, tag := "", pkgPath := "", byteOffset := 16 }]) (tot := 27) (by kernel_rfl) (by kernel_rfl) (.cons (sz := 1) rfl (by kernel_rfl) (Rd.int (k := .i64) (by kernel_rfl)) (.cons (sz := 1) rfl (by kernel_rfl) (Rd.int (k := .i64) (by kernel_rfl)) (.cons (sz := 25) rfl (by kernel_rfl) (rd_34) (.nil rfl)))) (fun y => ⟨y.1, y.2.1, y.2.2.1⟩) (fun _ => rfl) (fun _ h => h)
theorem own : ownKnob Try.prog.godebug = none := by kernel_rfl
theorem rowkids : Kids Try.prog (· < Try.prog.types.size) := kids_rows (by kernel_rfl) (by kernel_rfl)
theorem rowfull : ∀ t e, t < Try.prog.types.size → Try.prog.underlying t = some (.slice e) → 0 < Try.prog.cellsOf e := slices_full_of Try.prog (by kernel_rfl)
set_option maxRecDepth 100000 in
theorem contract (H : Type) (enc : TypeId × Value → H) (W : World) (base : Nat) (args : Array Value) (ds gs : List (DataW H)) (before : List MemPlace)
    (hval : ∀ (j : Nat) t v, Try.f3.params[j]? = some t → args[j]? = some v → Value.okWide Try.prog W .any base t v)
    (hW : DataW.Whole enc Try.prog Try.f3.params.toList Rows.auditTellsSpec.vars false W args.toList ds gs before) (hk : Rows.uptoSmall H (ds ++ gs) = true) :
    Calls Try.prog 3 args W fun e W' => ∃ v, e = .returned v ∧ Rows.auditTellsSpec.post enc Try.prog Try.f3 false true false false W args v W' := by
  have hW' := hW
  obtain ⟨p, q, hA, hV, rfl, hfz, hnd⟩ := hW
  rw [Try.params3] at hA hval
  obtain ⟨v0, vs0, d0, ds0, p0, q0, hargs, rfl, rfl, h0, r0⟩ := trodAll_cons hA
  obtain ⟨v1, vs1, d1, ds1, p1, q1, rfl, rfl, rfl, h1, r1⟩ := trodAll_cons r0
  obtain ⟨rfl, rfl, rfl⟩ := trodAll_nil r1
  obtain rfl : args = #[v0, v1] := by cases args; simp_all
  obtain ⟨rfl, rfl⟩ := trodVars_none hV
  simp only [List.append_nil] at hW'
  have hbulk := of_decide_eq_true hk
  simp only [Rows.uptoBulkAll, List.append_nil, List.cons_append, List.nil_append] at hbulk
  obtain ⟨a0, len0, cap0, rfl⟩ := okWide_slice Try.underlying22 (hval 0 22 v0 rfl rfl)
  obtain ⟨fu0, hf0⟩ := h0
  obtain ⟨xs0, hl0, hwf0, hr0, hd0⟩ := open_list (C := api_Event.cs) (sz := 27) Try.underlying22 (by kernel_rfl) (by decide) (fun _ => rfl) (rd_36) hf0
  have hb0 : xs0.length ≤ 1048576 := by
    rcases hd0 with ⟨_, h0⟩ | ⟨l, r, hl, hll⟩
    · omega
    · simp only at hl
      have := bulk_slice hl
      omega
  obtain ⟨k0, hk0, hi0⟩ := hr0 (by omega)
  obtain ⟨fu1, hf1⟩ := h1
  obtain ⟨x1, hx1, hwf1⟩ := Rd.str (by kernel_rfl) _ enc W _ _ _ _ _ _ hf1
  obtain ⟨s1, rfl⟩ := okWide_string Try.underlying9 (hval 1 9 v1 rfl rfl)
  obtain rfl : x1 = s1 := (show s1 = x1 from by simpa [Value.cells] using hx1).symm
  obtain ⟨r, hrun, rfl⟩ := AuditTells_true xs0 x1 hb0 (fun e he => (hwf0 e he).2.2.1.2.2.1)
  refine law_post rfl hW' rowkids rowfull (by rw [Try.params3]; decide) rfl rfl rfl rfl Try.underlying4 ?_
  refine (SpecF.top (S_narrowslaw27_AuditTells _ xs0 x1 _ hrun) ?_).mono fun e W' ⟨⟨_, _, he⟩, hkp⟩ => ⟨he, hkp⟩
  intro r hr
  simp only [List.mem_cons, List.not_mem_nil, or_false] at hr
  subst hr; exact ⟨k0, hk0, hi0⟩
set_option maxRecDepth 100000 in
theorem lifted (os : Os) (started : os.Started) (H : Type) (enc : TypeId × Value → H) (F : Stop.Interp) :
    ReturnsInHanded {} Try.checked os 3 .any ((Rows.OpenSpec.upto Rows.auditTellsSpec).pre6 enc Try.prog Try.f3 Rows.auditTellsUptoRow.domain false) (((Rows.OpenSpec.upto Rows.auditTellsSpec).at F).post enc Try.prog Try.f3 false true false false) := by
  refine returnsInHanded_of_cond (C := Try.checked) (s := Rows.OpenSpec.upto Rows.auditTellsSpec) (k := Rows.uptoSmall) rfl own started (by kernel_rfl) Try.func3
    (OpenSpec.witness (enc := enc) (C := Try.checked) (s := Rows.OpenSpec.upto Rows.auditTellsSpec) (k := Rows.uptoSmall) rfl false ⟨#[], #[.slice none 0 0, .string ⟨#[]⟩], []⟩ 8 (by kernel_rfl) (by kernel_rfl) (by kernel_rfl)
      (x := ([.nil, .lit (.string [])], [], [])) (by kernel_rfl) rfl (by kernel_rfl)) ?_
  intro W base args ds gs before hval hW _ hk _
  exact contract H enc W base args ds gs before hval hW hk
theorem over : Rows.auditTellsUptoRow.holds Try.pinned (Rows.OpenSpec.upto Rows.auditTellsSpec) :=
  OpenClaim.holds_of_cond 3 Try.f3 rfl rfl rfl rfl rfl rfl rfl ⟨rfl, rfl, rfl, rfl, rfl⟩ rfl rfl rfl rfl rfl (by kernel_rfl) Try.func3 (by kernel_rfl)
    (of_decide_eq_true (by kernel_rfl)) (by unfold Func.isWrapper; first | (rw [if_pos (by decide +kernel)]; kernel_rfl) | (rw [if_neg (by decide +kernel)]; exact ⟨rfl, rfl⟩))
    (fun os started H enc _ F => lifted os started H enc F)
/-- narrows/narrowslaw27.AuditTells: whatever the arguments of bulk at most 1048576, it returns true, and they read as they did. -/
theorem proved : Rows.AuditTellsUptoSaid := over
end Go.Proofs.Ytknpgjcnhneaaaa.auditTells
