/- What any events' signatures are of, by any root, is as the page says. -/
import Derived.Test.YtknpgjcnhneaaaaAuLwVer2
set_option linter.unusedVariables false
set_option linter.unusedSimpArgs false
namespace Go.Sl
theorem alive27 : narrowslaw27_alive = some true := by kernel_rfl
/-- An event's signature is of an act, by the root. -/
def cnd (root : ByteArray) (e : api_Event) : Bool := decide ((e.Tx.Kind = 5 ∨ e.Tx.Kind = 6) ∧ e.Tx.Inv.Root = root)
noncomputable def kv (e : api_Event) : ByteArray := (deal_Key e.Tx.Inv).getD ⟨#[]⟩
noncomputable def pv (e : api_Event) : List UInt8 := (deal_Payload (IntKind.i64.wrap (e.Tx.Kind - 4)) (kv e) e.Tx.Fee).getD []
noncomputable def vv (root : ByteArray) (e : api_Event) : Int × Bool := (mss_Verify root (pv e) e.Tx.Sig).getD (0, false)
noncomputable def ue (root : ByteArray) (e : api_Event) : audit_Use := ⟨(vv root e).1, IntKind.i64.wrap (e.Tx.Kind - 4), kv e, e.Tx.Fee⟩
theorem kv_eq (e : api_Event) : deal_Key e.Tx.Inv = some (kv e) ∧ narrowsref06_Key e.Tx.Inv = some (kv e) ∧ (kv e).size ≤ 32 := by
  obtain ⟨k, h1, h2, h3⟩ := Key_eq e.Tx.Inv
  have : kv e = k := by unfold kv; rw [h1]; rfl
  rw [this]; exact ⟨h1, h2, h3⟩
theorem pv_eq (e : api_Event) : deal_Payload (IntKind.i64.wrap (e.Tx.Kind - 4)) (kv e) e.Tx.Fee = some (pv e) ∧ narrowsref06_Payload (IntKind.i64.wrap (e.Tx.Kind - 4)) (kv e) e.Tx.Fee = some (pv e) ∧ (pv e).length ≤ 8192 := by
  obtain ⟨p, h1, h2, h3⟩ := Payload_eq (IntKind.i64.wrap (e.Tx.Kind - 4)) (k := kv e) e.Tx.Fee (by have := (kv_eq e).2.2; omega)
  have : pv e = p := by unfold pv; rw [h1]; rfl
  rw [this]; exact ⟨h1, h2, h3⟩
theorem vv_eq (root : ByteArray) (e : api_Event) : mss_Verify root (pv e) e.Tx.Sig = some (vv root e) ∧ narrowsref04_Verify root (pv e) e.Tx.Sig = some (vv root e) := by
  obtain ⟨p, h1, h2⟩ := Verify_eq root (t := pv e) e.Tx.Sig (by have := (pv_eq e).2.2; omega)
  have : vv root e = p := by unfold vv; rw [h1]; rfl
  rw [this]; exact ⟨h1, h2⟩
noncomputable def sta (root : ByteArray) (acc : List audit_Use) (e : api_Event) : List audit_Use :=
  if cnd root e = true then (if (if (vv root e).2 = true then !(decide (ue root e ∈ acc)) else false) = true then acc ++ [ue root e] else acc) else acc
noncomputable def run27 (root : ByteArray) (l : List api_Event) : List audit_Use := l.foldl (sta root) []
theorem run27_at {root : ByteArray} {l : List api_Event} {i : Nat} {e : api_Event} (h : l[i]? = some e) : run27 root (l.take (i + 1)) = sta root (run27 root (l.take i)) e := by
  unfold run27
  rw [List.take_add_one, h, List.foldl_append]
  rfl
theorem sta_len (root : ByteArray) (acc : List audit_Use) (e : api_Event) : (sta root acc e).length ≤ acc.length + 1 := by
  unfold sta
  split
  · generalize (if (vv root e).2 = true then !(decide (ue root e ∈ acc)) else false) = b
    cases b <;> simp
  · simp
theorem run27_len (root : ByteArray) (l : List api_Event) : (run27 root l).length ≤ l.length := by
  have key : ∀ (l : List api_Event) (a : List audit_Use), (l.foldl (sta root) a).length ≤ a.length + l.length := by
    intro l
    induction l with
    | nil => intro a; simp
    | cons e l ih =>
      intro a
      have := ih (sta root a e)
      have := sta_len root a e
      simp only [List.foldl_cons, List.length_cons]
      omega
  have := key l []
  simpa [run27] using this
theorem kind27 {k : Int} (h : (Lit.int .i64 k).wf = true) : (decide (IntKind.i64.wrap (k - 4) < 1) = true ∨ decide (IntKind.i64.wrap (k - 4) > 2) = true) ↔ ¬ (k = 5 ∨ k = 6) := by
  have hb : -9223372036854775808 ≤ k ∧ k ≤ 9223372036854775807 := by
    simp only [Lit.wf, Bool.and_eq_true, decide_eq_true_eq] at h
    exact h
  by_cases h1 : k < -9223372036854775804
  · have h2 : k = -9223372036854775808 ∨ k = -9223372036854775807 ∨ k = -9223372036854775806 ∨ k = -9223372036854775805 := by omega
    rcases h2 with rfl | rfl | rfl | rfl <;> decide
  · rw [wrap64 (by omega) (by omega)]
    simp only [decide_eq_true_eq]
    omega
theorem use_cond {root : ByteArray} {e : api_Event} (h : (Lit.int .i64 e.Tx.Kind).wf = true) :
    (if (decide (e.Tx.Inv.Root ≠ root)) = true then true else (if (decide ((IntKind.i64.wrap (e.Tx.Kind - 4)) < 1)) = true then true else (decide ((IntKind.i64.wrap (e.Tx.Kind - 4)) > 2)))) = !cnd root e := by
  have hk := kind27 h
  unfold cnd
  by_cases h1 : e.Tx.Inv.Root = root
  · simp only [h1, ne_eq, not_true_eq_false, decide_false, Bool.false_eq_true, if_false, and_true]
    by_cases h2 : e.Tx.Kind = 5 ∨ e.Tx.Kind = 6
    · have h3 : ¬ (decide (IntKind.i64.wrap (e.Tx.Kind - 4) < 1) = true ∨ decide (IntKind.i64.wrap (e.Tx.Kind - 4) > 2) = true) := fun q => hk.1 q h2
      rw [not_or] at h3
      rw [if_neg h3.1, decide_eq_true h2]
      simpa using h3.2
    · have h3 := hk.2 h2
      rw [decide_eq_false h2]
      by_cases h4 : decide (IntKind.i64.wrap (e.Tx.Kind - 4) < 1) = true
      · rw [if_pos h4]; rfl
      · rw [if_neg h4, h3.resolve_left h4]; rfl
  · simp [h1]
theorem use_val {root : ByteArray} {e : api_Event} (h : (Lit.int .i64 e.Tx.Kind).wf = true) :
    audit_use e root = some (if cnd root e = true then (ue root e, (vv root e).2) else (⟨0, 0, ⟨#[]⟩, ⟨0, 0, 0, 0⟩⟩, false)) := by
  unfold audit_use
  rw [(kv_eq e).1, Option.bind_some]
  simp only [thn]
  rw [use_cond h, (pv_eq e).1, Option.bind_some, (vv_eq root e).1, Option.bind_some]
  cases cnd root e <;> rfl
theorem index_val (l : List audit_Use) (u : audit_Use) : Tt (slices_Index_audit_Use l u) (fun r => decide (r ≥ 0) = decide (u ∈ l)) := by
  unfold slices_Index_audit_Use
  refine Tt.loopR (fun i _ => u ∉ l.take i) (by simp) ?_ ?_
  · intro i x s hx hI
    refine .ite (fun hp => ?_) fun hp => .pure ?_
    · rw [decide_eq_true_iff] at hp
      subst hp
      refine .pure ?_
      show decide ((i : Int) ≥ 0) = decide (u ∈ l)
      rw [decide_eq_true (by omega), decide_eq_true (List.mem_of_getElem? hx)]
    · rw [decide_eq_false_iff_not] at hp
      show u ∉ l.take (i + 1)
      rw [List.take_add_one, hx]
      simp only [Option.toList_some, List.mem_append, List.mem_singleton, not_or]
      exact ⟨hI, hp⟩
  · intro s hI
    rw [List.take_length] at hI
    refine .pure ?_
    simp [hI]
theorem contains_val (l : List audit_Use) (u : audit_Use) : slices_Contains_audit_Use l u = some (decide (u ∈ l)) := by
  obtain ⟨r, hr, hq⟩ := index_val l u
  unfold slices_Contains_audit_Use
  rw [hr, Option.bind_some, hq]
theorem Of_val {root : ByteArray} {l : List api_Event} (hl : l.length ≤ 20) (hk : ∀ e ∈ l, (Lit.int .i64 e.Tx.Kind).wf = true) : audit_Of l root = some (run27 root l) := by
  have key : Tt (audit_Of l root) (fun r => r = run27 root l) := by
    unfold audit_Of
    refine Tt.loopR (fun i s => s = run27 root (l.take i)) rfl ?_ ?_
    · rintro i e s he rfl
      have hlen := run27_len root (l.take i)
      have hlt := (List.getElem?_eq_some_iff.1 he).1
      rw [List.length_take] at hlen
      rw [use_val (hk e (List.mem_of_getElem? he)), Option.bind_some]
      have hs := run27_at (root := root) he
      generalize run27 root (l.take i) = a at *
      by_cases hc : cnd root e = true
      · rw [if_pos hc]
        dsimp only
        have hx : (if (vv root e).2 = true then Option.bind (slices_Contains_audit_Use a (ue root e)) fun r29 => some (!r29) else some false) = some (if (vv root e).2 = true then !(decide (ue root e ∈ a)) else false) := by
          rw [contains_val]; split <;> rfl
        rw [hx, Option.bind_some]
        have hs' : run27 root (l.take (i + 1)) = if (if (vv root e).2 = true then !(decide (ue root e ∈ a)) else false) = true then a ++ [ue root e] else a := by rw [hs]; unfold sta; rw [if_pos hc]
        refine .bind (P := fun r => r = run27 root (l.take (i + 1))) (.ite (fun hp => .grd (by simp; omega) (.pure ?_)) fun hp => .pure ?_) fun y hy => .pure hy
        · rw [hs', if_pos hp]
        · rw [hs', if_neg (by simp [hp])]
      · rw [if_neg hc]
        have hs' : run27 root (l.take (i + 1)) = a := by rw [hs]; unfold sta; rw [if_neg hc]
        exact .pure (by show a = _; rw [hs'])
    · rintro s rfl
      rw [List.take_length]
      exact .pure rfl
  obtain ⟨r, hr, rfl⟩ := key
  exact hr
theorem law_cond {root : ByteArray} {e : api_Event} : (if (decide (e.Tx.Kind ≠ 5)) = true then (if (decide (e.Tx.Kind ≠ 6)) = true then true else (decide (e.Tx.Inv.Root ≠ root))) else (decide (e.Tx.Inv.Root ≠ root))) = !cnd root e := by
  unfold cnd
  by_cases h5 : e.Tx.Kind = 5 <;> by_cases h6 : e.Tx.Kind = 6 <;> by_cases h1 : e.Tx.Inv.Root = root <;> simp [h5, h6, h1]
theorem AuditTells_true (l0 : List api_Event) (root : ByteArray) (_ : l0.length ≤ 1048576) (hk0 : ∀ e ∈ l0, (Lit.int .i64 e.Tx.Kind).wf = true) : ∃ r, narrowslaw27_AuditTells l0 root = some r ∧ r = true := by
  show Tt _ (fun r => r = true)
  unfold narrowslaw27_AuditTells
  rw [alive27, Option.bind_some]
  refine .ite (fun h => by simp at h) fun _ => ?_
  refine .bind (P := fun l : List api_Event => l.length ≤ 20 ∧ ∀ e ∈ l, (Lit.int .i64 e.Tx.Kind).wf = true) (.ite (fun hp => ?_) fun hp => .pure ?_) fun l hl => ?_
  · rw [decide_eq_true_iff] at hp
    refine .grd (by unfold okS; simp; omega) (.pure ⟨?_, fun e he => hk0 e ?_⟩)
    · simp [slc]; omega
    · simp only [slc, List.drop_zero] at he; exact List.mem_of_mem_take he
  · rw [decide_eq_false_iff_not] at hp; exact ⟨by omega, hk0⟩
  obtain ⟨hl, hk⟩ := hl
  refine Tt.loopW (S := fun r : Bool => r = true) (fun k s => ∃ i : Nat, s.1 = i ∧ i ≤ l.length ∧ k = l.length - i ∧ s.2 = run27 root (l.take i)) (fun s => s.2 = run27 root l) l.length ⟨0, rfl, by omega, rfl, rfl⟩ ?_ ?_
  · rintro k ⟨m, a⟩ ⟨i, rfl, hi, rfl, ha⟩
    dsimp only at *
    refine .ite (fun hp => ?_) fun hp => .pure ?_
    · rw [decide_eq_true_iff] at hp
      have hlt : i < l.length := by omega
      obtain ⟨e, he⟩ : ∃ e, l[i]? = some e := ⟨_, List.getElem?_eq_getElem hlt⟩
      have hat : at_ l (i : Int) = some e := by rw [at_nat, he]
      have hlen := run27_len root (l.take i)
      rw [List.length_take] at hlen
      have hs := run27_at (root := root) he
      rw [← ha] at hlen hs
      clear ha
      rw [hat]
      simp only [Option.bind_some]
      rw [(kv_eq e).2.1]
      simp only [Option.bind_some, thn]
      rw [law_cond]
      have fin : ∀ y : List audit_Use, y = run27 root (l.take (i + 1)) → Tt (some (Ct.nx (IntKind.i64.wrap ((i : Int) + 1), y) : Ct (Int × List audit_Use) Bool)) (CtP (fun s' => ∃ m, m < l.length - i ∧ ∃ j : Nat, s'.1 = j ∧ j ≤ l.length ∧ m = l.length - j ∧ s'.2 = run27 root (l.take j)) (fun s => s.2 = run27 root l) (fun r : Bool => r = true)) := by
        rintro y rfl
        refine .pure ⟨l.length - (i + 1), by omega, i + 1, ?_, by omega, rfl, rfl⟩
        dsimp only
        rw [wrap64 (by omega) (by omega)]
        rfl
      refine .bind (P := fun y => y = run27 root (l.take (i + 1))) ?_ fin
      rw [hs]
      unfold sta
      cases hc : cnd root e with
      | false => exact .pure rfl
      | true =>
        simp only [Bool.not_true, Bool.false_eq_true, if_false, if_true]
        rw [(pv_eq e).2.1]
        simp only [Option.bind_some]
        rw [(vv_eq root e).2]
        simp only [Option.bind_some]
        have hu : (⟨(vv root e).1, IntKind.i64.wrap (e.Tx.Kind - 4), kv e, e.Tx.Fee⟩ : audit_Use) = ue root e := rfl
        rw [hu]
        refine Tt.loopW (fun k s => ∃ j : Nat, s.1 = j ∧ j ≤ a.length ∧ k = a.length - j ∧ s.2 = (if (vv root e).2 = true then !(decide (ue root e ∈ a.take j)) else false)) (fun s => s.2 = (if (vv root e).2 = true then !(decide (ue root e ∈ a)) else false)) a.length ⟨0, rfl, by omega, rfl, by simp⟩ ?_ ?_
        · rintro k ⟨m, o⟩ ⟨j, rfl, hj, rfl, ho⟩
          dsimp only at *
          refine .ite (fun hp => ?_) fun hp => .pure ?_
          · rw [decide_eq_true_iff] at hp
            have hjl : j < a.length := by omega
            obtain ⟨x, hx⟩ : ∃ x, a[j]? = some x := ⟨_, List.getElem?_eq_getElem hjl⟩
            have hxa : at_ a (j : Int) = some x := by rw [at_nat, hx]
            have ht : a.take (j + 1) = a.take j ++ [x] := by rw [List.take_add_one, hx]; rfl
            refine .bind (P := fun y => y = (if (vv root e).2 = true then !(decide (ue root e ∈ a.take (j + 1))) else false)) (.ite (fun hq => ?_) fun hq => .pure ?_) fun y hy => .pure ⟨a.length - (j + 1), by omega, j + 1, by dsimp only; rw [wrap64 (by omega) (by omega)]; rfl, by omega, rfl, hy⟩
            · rw [hxa, Option.bind_some]
              refine .pure ?_
              rw [ho] at hq
              cases hv : (vv root e).2 with
              | false => rw [hv] at hq; simp at hq
              | true =>
                rw [hv, if_pos rfl] at hq
                have hn : ue root e ∉ a.take j := by simpa using hq
                rw [if_pos rfl, ht]
                by_cases hxe : x = ue root e
                · simp [hxe]
                · have : ue root e ≠ x := fun q => hxe q.symm
                  simp [hn, hxe, this]
            · rw [ho] at hq
              cases hv : (vv root e).2 with
              | false => simp
              | true =>
                rw [hv, if_pos rfl] at hq
                have hn : ue root e ∈ a.take j := by simpa using hq
                rw [if_pos rfl, ht]
                simp [hn]
          · rw [decide_eq_false_iff_not] at hp
            have : j = a.length := by omega
            subst this
            show o = _
            rw [ho, List.take_length]
        · rintro ⟨m, o⟩ ho
          dsimp only at *
          rw [ho]
          refine .ite (fun hp => .grd (by simp; omega) (.pure ?_)) fun hp => .pure ?_
          · rw [if_pos hp]
          · rw [if_neg (by simp [hp])]
    · rw [decide_eq_false_iff_not] at hp
      have : i = l.length := by omega
      subst this
      show a = _
      rw [ha, List.take_length]
  · rintro ⟨m, a⟩ ha
    dsimp only at *
    subst ha
    rw [Of_val hl hk, Option.bind_some]
    refine .ite (fun h => by simp at h) fun _ => ?_
    have hlen := run27_len root l
    generalize run27 root l = a at *
    refine Tt.loopW (S := fun r : Bool => r = true) (fun k s => ∃ i : Nat, s = (i : Int) ∧ i ≤ a.length ∧ k = a.length - i) (fun _ => True) a.length ⟨0, rfl, by omega, rfl⟩ ?_ fun _ _ => .pure rfl
    rintro k s ⟨i, rfl, hi, rfl⟩
    refine .ite (fun hp => ?_) fun hp => .pure trivial
    rw [decide_eq_true_iff] at hp
    obtain ⟨e, he⟩ : ∃ e, a[i]? = some e := ⟨_, List.getElem?_eq_getElem (by omega)⟩
    have hat : at_ a (i : Int) = some e := by rw [at_nat, he]
    rw [hat]
    simp only [Option.bind_some]
    refine .ite (fun h => by simp at h) fun _ => .pure ⟨a.length - (i + 1), by omega, i + 1, ?_, by omega, rfl⟩
    rw [wrap64 (by omega) (by omega)]
    rfl
end Go.Sl
