/- Slices: lists that are only read, lists that are owned. -/
import Derived.Test.YtjlalcoommhfoaaGreatSlCalls
set_option linter.unusedVariables false
set_option linter.unusedSimpArgs false
namespace Go.Sl

/-- The slice 'v' reads as the list 'xs' of rows of 'sz' cells. -/
def rows (sz : Nat) (v : Value) (xs : List (List Value)) : Asn := fun h =>
  (∀ x ∈ xs, x.length = sz) ∧ xs.length ≤ 4611686018427387904 ∧
    ((xs = [] ∧ ∃ a c, v = .slice a 0 c) ∨ ∃ b off cap T all fz, v = .slice (some ⟨b, off, none⟩) xs.length cap ∧ h = single b (.cells ⟨all⟩ T fz) ∧ xs.flatten <+: all.drop off ∧ xs.length ≤ cap)
/-- The slice 'v' of the call's own holds the list 'xs'; behind it there is room. -/
def lst (T : TypeId) (sz : Nat) (v : Value) (xs : List (List Value)) : Asn := fun h =>
  (∀ x ∈ xs, x.length = sz) ∧ xs.length ≤ 4611686018427387904 ∧
    ((xs = [] ∧ v = nilSl) ∨ ∃ b cap pre ext, v = .slice (some ⟨b, pre.length, none⟩) xs.length cap ∧ h = single b (.cells ⟨pre ++ xs.flatten ++ ext⟩ T (0, 0)) ∧ xs.length ≤ cap ∧ ext.length = (cap - xs.length) * sz)

theorem lst_rows {T : TypeId} {sz : Nat} {v : Value} {xs : List (List Value)} {h : Hp} (l : lst T sz v xs h) : rows sz v xs h := by
  obtain ⟨h1, h2, h3⟩ := l
  refine ⟨h1, h2, ?_⟩
  rcases h3 with ⟨rfl, rfl⟩ | ⟨b, cap, pre, ext, rfl, rfl, h4, h5⟩
  · exact .inl ⟨rfl, _, _, rfl⟩
  · refine .inr ⟨b, _, cap, T, _, _, rfl, rfl, ?_⟩
    rw [List.append_assoc, List.drop_left]
    exact ⟨List.prefix_append _ _, h4⟩
theorem flat_len {sz : Nat} {xs : List (List Value)} (h : ∀ x ∈ xs, x.length = sz) : xs.flatten.length = xs.length * sz := by
  induction xs with
  | nil => simp
  | cons x xs ih =>
    rw [List.flatten_cons, List.length_append, h x List.mem_cons_self, ih (fun y hy => h y (List.mem_cons_of_mem _ hy)), List.length_cons, Nat.succ_mul, Nat.add_comm]
theorem flat_at {sz : Nat} : ∀ {xs : List (List Value)}, (∀ x ∈ xs, x.length = sz) → ∀ {i : Nat} {x : List Value}, xs[i]? = some x → x <+: xs.flatten.drop (i * sz) := by
  intro xs
  induction xs with
  | nil => intro _ i x hx; simp at hx
  | cons y xs ih =>
    intro h i x hx
    cases i with
    | zero => simp at hx; subst hx; simp
    | succ i =>
      simp at hx
      have := ih (fun z hz => h z (List.mem_cons_of_mem _ hz)) hx
      rw [List.flatten_cons, Nat.succ_mul, Nat.add_comm, ← List.drop_drop, List.drop_left' (h y List.mem_cons_self)]
      exact this
theorem rows_sub {sz : Nat} {v : Value} {xs : List (List Value)} {h : Hp} (r : rows sz v xs h) {i : Nat} {x : List Value} (hx : xs[i]? = some x) :
    ∃ b off cap, v = .slice (some ⟨b, off, none⟩) xs.length cap ∧ sub b (off + i * sz) x h := by
  obtain ⟨h1, h2, h3⟩ := r
  rcases h3 with ⟨rfl, _⟩ | ⟨b, off, cap, T, all, fz, rfl, rfl, h4, _⟩
  · simp at hx
  · refine ⟨b, off, cap, rfl, T, all, fz, rfl, ?_⟩
    have h5 := flat_at h1 hx
    rw [← List.drop_drop]
    obtain ⟨r, hr⟩ := h4
    rw [← hr]
    obtain ⟨s, hs⟩ := h5
    have : i * sz ≤ xs.flatten.length := by
      rw [flat_len h1]
      exact Nat.mul_le_mul_right _ (Nat.le_of_lt (List.getElem?_eq_some_iff.1 hx).1)
    rw [List.drop_append_of_le_length this, ← hs, List.append_assoc]
    exact List.prefix_append _ _
theorem rows_shape {sz : Nat} {v : Value} {xs : List (List Value)} {h : Hp} (r : rows sz v xs h) : ∃ a c, v = .slice a xs.length c := by
  obtain ⟨h1, h2, h3⟩ := r
  rcases h3 with ⟨rfl, a, c, rfl⟩ | ⟨b, off, cap, T, all, fz, rfl, _⟩
  · exact ⟨a, c, rfl⟩
  · exact ⟨_, _, rfl⟩

section
variable {C : Cx} {E E' E1 E2 E3 : List (Nat × Value)} {L L' L1 R R' : List Asn} {K : Act → World → Prop} {Q : Exit → Act → World → Prop}
  {ops : Array Oper} {rest : List Oper} {d : Nat} {v x y u : Value} {ty : TypeId} {pos : String} {aft : Array Edge} {p q : Asn} {b : Nat} {T t : TypeId} {cs cs' : List Value} {off k n sz : Nat} {gd : Option (Nat × Bool)} {xs ys : List (List Value)}

theorem run_len {P : Program} {w : World} {st e : TypeId} {a : Option Addr} {n c : Nat} {ats : Array TypeId} (hu : ∀ w, (underlying st).run P w = .ok (.slice e) w) (h : ats[0]? = some st) :
    (Builtin.len_ ats ty #[.slice a n c]).run P w = .ok (N n) w := by
  simp [Builtin.len_, h, hu, goInt]
theorem V.lenr {o : Operand} {st e : TypeId} (h : Ev E o v E') (m : rows sz v xs ∈ R) (hu : ∀ w, (underlying st).run C.P w = .ok (.slice e) w) :
    OpV C E L R ⟨some d, .call ⟨.builtin .len, #[o], #[st]⟩, ty, pos, aft, gd⟩ (N xs.length) E' := fun a w he hs => by
  obtain ⟨h1, h2⟩ := h _ a he
  obtain ⟨k, hk, _⟩ := hs.ro_at m
  obtain ⟨a, c, rfl⟩ := rows_shape hk
  refine ⟨?_, h2⟩
  have := run_len (ty := ty) (a := a) (n := xs.length) (c := c) (w := w) (ats := #[st]) hu rfl
  simp [execOp, resolve, invoke, builtin, h1, this]
theorem V.lenl {o : Operand} {st e : TypeId} (h : Ev E o v E') (tk : Tk (lst T sz v xs) L L') (hu : ∀ w, (underlying st).run C.P w = .ok (.slice e) w) :
    OpV C E L R ⟨some d, .call ⟨.builtin .len, #[o], #[st]⟩, ty, pos, aft, gd⟩ (N xs.length) E' := fun a w he hs => by
  obtain ⟨h1, h2⟩ := h _ a he
  obtain ⟨k, hk, _⟩ := (hs.take tk).own_at
  obtain ⟨a, c, rfl⟩ := rows_shape (lst_rows hk)
  refine ⟨?_, h2⟩
  have := run_len (ty := ty) (a := a) (n := xs.length) (c := c) (w := w) (ats := #[st]) hu rfl
  simp [execOp, resolve, invoke, builtin, h1, this]
/-- &xs[i] of a list that is only read: an address, and what lies there. -/
theorem G.ixr {o oi : Operand} {st e : TypeId} {i : Nat} {x : List Value} (h : Ev E o (N i) E1) (h' : Ev E1 oi v E') (m : rows sz v xs ∈ R) (hx : xs[i]? = some x)
    (hu : ∀ w, (underlying st).run C.P w = .ok (.slice e) w) (hs : ∀ w, (sizeOf e).run C.P w = .ok sz w) (hd : fr E' d C.n.n = true) :
    OpG C Q E L R ⟨some d, .indexAddr st oi o, ty, pos, aft, gd⟩ (fun _ : Nat × Nat => True) (fun z => (d, pt z.1 z.2) :: E') (fun _ => L) (fun z => sub z.1 z.2 x :: R) := fun a w K he hst kk => by
  obtain ⟨h1, h2⟩ := h _ a he
  obtain ⟨h3, h4⟩ := h' _ a h2
  obtain ⟨k, hk, _⟩ := hst.ro_at m
  obtain ⟨b, off, cap, rfl, _⟩ := rows_sub hk hx
  have hlt : i < xs.length := (List.getElem?_eq_some_iff.1 hx).1
  have hrun : (execOp a.eval ⟨some d, .indexAddr st oi o, ty, pos, aft, gd⟩).run C.P w = .ok (.value (pt b (off + i * sz))) w := by
    simp [execOp, h1, h3, Instr.indexAt, asIntOf, hu, hs, addr_add, hlt]
  unfold Oper.wp
  rw [hrun]
  refine kk (b, off + i * sz) trivial _ _ (h4.put hd) (hst.ro fun r hr => ?_)
  rcases List.mem_cons.1 hr with rfl | hm
  · refine ⟨_, m, fun h' hk' => ?_⟩
    obtain ⟨b', off', cap', e, hs'⟩ := rows_sub hk' hx
    simp only [Value.slice.injEq, Option.some.injEq, Addr.mk.injEq, and_true, true_and] at e
    obtain ⟨⟨rfl, rfl⟩, rfl⟩ := e
    exact hs'
  · exact ⟨r, hm, fun _ x => x⟩
/-- A nil list of one's own. -/
theorem Post.lnil (T : TypeId) (sz : Nat) (h : Post C E (lst T sz nilSl [] :: L) R K) : Post C E L R K := fun a w e s => h a w e (s.imp fun hh st =>
  ⟨fun _ => none, hh, by funext i; simp [un], fun _ => .inl rfl, ⟨by simp, by simp, .inl ⟨rfl, rfl⟩⟩, st⟩)
end
end Go.Sl
