/- Regions whose order Go leaves open: one order is walked, the others come to the same. -/
import Derived.Test.YtjlalcoommhfoaaGreatSlLists
set_option linter.unusedVariables false
set_option linter.unusedSimpArgs false
namespace Go.Sl
section
variable {P : Program} {ops : Array Oper} {Q : Exit → Act → World → Prop} {S0 S : World → Prop} {m : Nat}

/-- As 'wpAny'; till number m has come up S0 holds. -/
def anyM (P : Program) (ops : Array Oper) (Q : Exit → Act → World → Prop) (S0 : World → Prop) (m : Nat) : Nat → Array Bool → Act → World → Prop
  | 0, l, a, w => Region.ready .any ops l = [] ∧ Q .normal a w
  | n + 1, l, a, w => (Region.ready .any ops l = [] → Q .normal a w) ∧
      ∀ i ∈ Region.ready .any ops l, wpOp P ops Q i (fun a' w' => ((l.setIfInBounds i true).getD m false = true ∨ S0 w') ∧ anyM P ops Q S0 m n (l.setIfInBounds i true) a' w') a w
theorem anyM_any : ∀ (n : Nat) (l : Array Bool) (a : Act) (w : World), anyM P ops Q S0 m n l a w → wpAny P .any ops Q n l a w
  | 0, _, _, _, h => h
  | n + 1, _, _, _, h => ⟨h.1, fun i hi => wpOp_mono (fun a' w' h' => anyM_any n _ a' w' h'.2) (h.2 i hi)⟩
theorem anyM_done {l : Array Bool} {a : Act} {w : World} (hr : Region.ready .any ops l = []) (h : Q .normal a w) : ∀ n, anyM P ops Q S0 m n l a w
  | 0 => ⟨hr, h⟩
  | _ + 1 => ⟨fun _ => h, by rw [hr]; simp⟩
/-- Panics don't look at the slots. -/
def QP0 (Q : Exit → Act → World → Prop) : Prop := ∀ c d v a w, Q (.panic c) (Act.put a d v) w → Q (.panic c) a w
/-- .. and the frames' depth is never outgrown. -/
def QP (Q : Exit → Act → World → Prop) : Prop := QP0 Q ∧ ∀ a w, ¬ Q .outgrown a w
def waits (ops : Array Oper) (m i : Nat) : Prop := ∀ om, ops[m]? = some om → ∃ e ∈ om.after, Region.binds .any e = true ∧ e.on = i

theorem anyM_first {i : Nat} {oi : Oper} {v : Value} (hi : ops[i]? = some oi) (hsel : ∀ (j : Nat) (o : Oper) cs b, ops[j]? = some o → o.op ≠ .select cs b) (hQ : QP0 Q) (him : i ≠ m)
    (hS : (∀ w, S w) ∨ (waits ops m i ∧ ∀ w, S0 w → S w)) :
    ∀ (fuel : Nat) (l : Array Bool) (a : Act) (w : World),
      (∀ j oj, ops[j]? = some oj → j ≠ i → l.getD j true = false → (∀ e ∈ oj.after, Region.binds .any e = true → e.on ≠ i) → oi.apart ops oj = true) →
      i ∈ Region.ready .any ops l → ((∀ w, S w) ∨ l.getD m false = false) → YieldsIf P ops S oi v a → S w → (l.getD m false = true ∨ S0 w) →
      anyM P ops Q S0 m fuel (l.setIfInBounds i true) (a.put oi.dst v) w → anyM P ops Q S0 m (fuel + 1) l a w := by
  have hget : ∀ (l : Array Bool) (k j : Nat), j ≠ k → (l.setIfInBounds k true).getD j false = l.getD j false := fun l k j h => getD_set_ne false (Ne.symm h)
  have hset : ∀ (l : Array Bool) (k j : Nat), l.getD j false = true → (l.setIfInBounds k true).getD j false = true := fun l k j h => getD_set_true h
  intro fuel
  induction fuel with
  | zero =>
    intro l a w _ hr _ hy hs hc H
    refine ⟨fun h => (by rw [h] at hr; cases hr), fun j hj => ?_⟩
    by_cases hji : j = i
    · subst hji; exact hy.wpOp hi hs ⟨by rw [hget l j m (Ne.symm him)]; exact hc, H⟩
    · have := ready_mono hj hji
      rw [H.1] at this
      cases this
  | succ fuel ih =>
    intro l a w hfree hr hlm hy hs hc H
    refine ⟨fun h => (by rw [h] at hr; cases hr), fun j hj => ?_⟩
    by_cases hji : j = i
    · subst hji; exact hy.wpOp hi hs ⟨by rw [hget l j m (Ne.symm him)]; exact hc, H⟩
    · have h1 := H.2 j (ready_mono hj hji)
      obtain ⟨hjun, oj, hoj, hall⟩ := mem_ready.1 hj
      have hil : ∀ k, k = i → l.getD k false = true → False := fun k hk hx => by
        rw [hk] at hx
        have h0 := (mem_ready.1 hr).1
        rcases Nat.lt_or_ge i l.size with h' | h'
        · simp [h'] at h0 hx; rw [h0] at hx; cases hx
        · simp [Array.getElem?_eq_none h'] at hx
      have hnot : ∀ e ∈ oj.after, Region.binds .any e = true → e.on ≠ i := fun e he hb heq => hil _ heq (hall e he hb)
      have h2 := wpOp_putIf hoj (hfree j oj hoj hji hjun hnot) (fun cs b => hsel i oi cs b hi) (fun cs b => hsel j oj cs b hoj) (fun c a w => hQ c _ _ a w) hy h1
      have hfree' : ∀ k ok, ops[k]? = some ok → k ≠ i → (l.setIfInBounds j true).getD k true = false →
          (∀ e ∈ ok.after, Region.binds .any e = true → e.on ≠ i) → oi.apart ops ok = true := fun k ok hk hki hun hno => by
        refine hfree k ok hk hki ?_ hno
        by_cases hjk : j = k
        · subst hjk; exact hjun
        · rw [getD_set_ne true hjk] at hun; exact hun
      refine wpOp_mono (fun a' w' h3 => ?_) h2
      obtain ⟨hy', hc', h4⟩ := h3
      have key : S w' ∧ ((l.setIfInBounds j true).getD m false = true ∨ S0 w') ∧ ((∀ w, S w) ∨ (l.setIfInBounds j true).getD m false = false) := by
        rcases hS with hS | ⟨hw, hS⟩
        · refine ⟨hS w', ?_, .inl hS⟩
          rcases hc' with hc' | hc'
          · left
            by_cases hjm : j = m
            · subst hjm
              have hlt : j < l.size := by
                rcases Nat.lt_or_ge j l.size with h' | h'
                · exact h'
                · simp [Array.getElem?_eq_none h'] at hjun
              simp [hlt]
            · rw [hget _ j m (Ne.symm hjm), hget l i m (Ne.symm him)] at hc'
              rw [hget l j m (Ne.symm hjm)]; exact hc'
          · exact .inr hc'
        · have hlm' : l.getD m false = false ∨ ∀ w, S w := hlm.symm
          have hjm : j ≠ m := fun e => by
            subst e
            obtain ⟨e, he, hb, ho⟩ := hw oj hoj
            exact hnot e he hb ho
          rcases hlm' with hlm' | hSS
          · rw [hget _ j m (Ne.symm hjm), hget l i m (Ne.symm him), hlm'] at hc'
            have : S0 w' := by simpa using hc'
            exact ⟨hS w' this, .inr this, .inr (by rw [hget l j m (Ne.symm hjm)]; exact hlm')⟩
          · refine ⟨hSS w', ?_, .inl hSS⟩
            rcases hc' with hc' | hc'
            · rw [hget _ j m (Ne.symm hjm), hget l i m (Ne.symm him)] at hc'
              exact .inl (hset l j m hc')
            · exact .inr hc'
      refine ⟨key.2.1, ih (l.setIfInBounds j true) a' w' hfree' (ready_mono hr (Ne.symm hji)) key.2.2 hy' key.1 key.2.1 ?_⟩
      rw [Array.setIfInBounds_comm _ _ hji]
      exact h4

/-! ### A plan: which comes first -/
inductive Kd where
  | pu | ld | go
/-- 'fk': two are ready, and either may come first. -/
inductive Pl where
  | nl
  | on (i : Nat) (k : Kd) (r : Pl)
  | fk (i j : Nat) (r s : Pl)
def chk (ops : Array Oper) (m : Nat) : Nat → Array Bool → Pl → Bool
  | 0, l, .nl => (Region.ready .any ops l).isEmpty
  | n + 1, l, .on i .pu r => (Region.ready .any ops l).contains i && Region.free .any ops l i && i != m && chk ops m n (l.setIfInBounds i true) r
  | n + 1, l, .on i .ld r => (Region.ready .any ops l).contains i && Region.free .any ops l i && i != m && !(l.getD m false) &&
      (match ops[m]? with | some om => om.after.any (fun e => Region.binds .any e && e.on == i) | none => true) && chk ops m n (l.setIfInBounds i true) r
  | n + 1, l, .on i .go r => (Region.ready .any ops l) == [i] && chk ops m n (l.setIfInBounds i true) r
  | n + 1, l, .fk i j r s => (Region.ready .any ops l) == [i, j] && chk ops m n (l.setIfInBounds i true) r && chk ops m n (l.setIfInBounds j true) s
  | _, _, _ => false
def linG (P : Program) (ops : Array Oper) (Q : Exit → Act → World → Prop) (S0 : World → Prop) (m : Nat) (z : Bool) (i : Nat) (r : Bool → Act → World → Prop) (a : Act) (w : World) : Prop :=
  wpOp P ops Q i (fun a' w' => ((z || i == m) = true ∨ S0 w') ∧ r (z || i == m) a' w') a w
def lin (P : Program) (ops : Array Oper) (Q : Exit → Act → World → Prop) (S0 : World → Prop) (m : Nat) : Bool → Pl → Act → World → Prop
  | _, .nl, a, w => Q .normal a w
  | z, .on i .pu r, a, w => ∃ o v, ops[i]? = some o ∧ YieldsIf P ops (fun _ => True) o v a ∧ lin P ops Q S0 m z r (a.put o.dst v) w
  | z, .on i .ld r, a, w => ∃ o v, ops[i]? = some o ∧ YieldsIf P ops S0 o v a ∧ S0 w ∧ lin P ops Q S0 m z r (a.put o.dst v) w
  | z, .on i .go r, a, w => linG P ops Q S0 m z i (fun z' => lin P ops Q S0 m z' r) a w
  | z, .fk i j r s, a, w => linG P ops Q S0 m z i (fun z' => lin P ops Q S0 m z' r) a w ∧ linG P ops Q S0 m z j (fun z' => lin P ops Q S0 m z' s) a w
theorem lin_any (hs : Region.noSelect ops = true) (hQ : QP0 Q) : ∀ (plan : Pl) (n : Nat) (l : Array Bool) (a : Act) (w : World) (z : Bool), l.getD m false = z → (z = true ∨ S0 w) → l.size = ops.size →
    chk ops m n l plan = true → lin P ops Q S0 m z plan a w → anyM P ops Q S0 m n l a w := by
  intro plan
  have hget : ∀ (l : Array Bool) (k j : Nat), j ≠ k → (l.setIfInBounds k true).getD j false = l.getD j false := fun l k j h => getD_set_ne false (Ne.symm h)
  have hjl : ∀ {l : Array Bool} {j : Nat}, j ∈ Region.ready .any ops l → j < l.size := fun {l j} this => by
    have h0 := (mem_ready.1 this).1
    rcases Nat.lt_or_ge j l.size with h' | h'
    · exact h'
    · simp [Array.getElem?_eq_none h'] at h0
  have hz' : ∀ {l : Array Bool} {z : Bool} {j : Nat}, l.getD m false = z → j < l.size → (l.setIfInBounds j true).getD m false = (z || j == m) := fun {l z j} hz hjl => by
    by_cases hjm : j = m
    · subst hjm; simp [hjl]
    · rw [hget l j m (Ne.symm hjm), hz]; simp [hjm]
  induction plan with
  | nl =>
    intro n l a w z hz hc hl hk h
    cases n with
    | zero => exact anyM_done (by simpa [chk] using hk) h _
    | succ n => simp [chk] at hk
  | on i k plan ih =>
    intro n l a w z hz hc hl hk h
    cases n with
    | zero => simp [chk] at hk
    | succ n =>
    cases k with
    | pu =>
      simp only [chk, Bool.and_eq_true, bne_iff_ne, ne_eq] at hk
      obtain ⟨⟨⟨h1, h2⟩, h3⟩, h4⟩ := hk
      obtain ⟨o, v, ho, hy, hl'⟩ := h
      refine anyM_first (S := fun _ => True) ho (Region.noSelect_spec hs) hQ h3 (.inl fun _ => trivial) _ l a w (Region.free_spec ho h2) (by simpa using h1) (.inl fun _ => trivial) hy trivial (hz ▸ hc) ?_
      exact ih n _ _ _ z (by rw [hget l i m (Ne.symm h3)]; exact hz) hc (by simpa using hl) h4 hl'
    | ld =>
      simp only [chk, Bool.and_eq_true, bne_iff_ne, ne_eq, Bool.not_eq_true'] at hk
      obtain ⟨⟨⟨⟨⟨h1, h2⟩, h3⟩, h5⟩, h6⟩, h4⟩ := hk
      obtain ⟨o, v, ho, hy, hs0, hl'⟩ := h
      have hw : waits ops m i := fun om hom => by
        rw [hom] at h6
        simp only [Array.any_eq_true, Bool.and_eq_true, beq_iff_eq] at h6
        obtain ⟨k, hk, hb⟩ := h6
        exact ⟨_, Array.getElem_mem hk, hb⟩
      refine anyM_first (S := S0) ho (Region.noSelect_spec hs) hQ h3 (.inr ⟨hw, fun _ h => h⟩) _ l a w (Region.free_spec ho h2) (by simpa using h1) (.inr h5) hy hs0 (.inr hs0) ?_
      exact ih n _ _ _ z (by rw [hget l i m (Ne.symm h3)]; exact hz) hc (by simpa using hl) h4 hl'
    | go =>
      simp only [chk, Bool.and_eq_true, beq_iff_eq] at hk
      obtain ⟨h1, h4⟩ := hk
      refine ⟨fun h0 => (by rw [h0] at h1; cases h1), fun j hj => ?_⟩
      have hlt := hjl hj
      rw [h1, List.mem_singleton] at hj
      subst hj
      have hzz := hz' (j := j) hz hlt
      have h' : linG P ops Q S0 m z j (fun z' => lin P ops Q S0 m z' plan) a w := h
      refine wpOp_mono (fun a' w' h3 => ?_) h'
      exact ⟨by rw [hzz]; exact h3.1, ih n _ a' w' _ hzz h3.1 (by simpa using hl) h4 h3.2⟩
  | fk i j r s ihr ihs =>
    intro n l a w z hz hc hl hk h
    cases n with
    | zero => simp [chk] at hk
    | succ n =>
    simp only [chk, Bool.and_eq_true, beq_iff_eq] at hk
    obtain ⟨⟨h1, h4⟩, h5⟩ := hk
    refine ⟨fun h0 => (by rw [h0] at h1; cases h1), fun k hk => ?_⟩
    have hlt := hjl hk
    rw [h1] at hk
    have hk' : k = i ∨ k = j := by simpa using hk
    rcases hk' with rfl | rfl
    · have hzz := hz' (j := k) hz hlt
      refine wpOp_mono (fun a' w' h3 => ?_) h.1
      exact ⟨by rw [hzz]; exact h3.1, ihr n _ a' w' _ hzz h3.1 (by simpa using hl) h4 h3.2⟩
    · have hzz := hz' (j := k) hz hlt
      refine wpOp_mono (fun a' w' h3 => ?_) h.2
      exact ⟨by rw [hzz]; exact h3.1, ihs n _ a' w' _ hzz h3.1 (by simpa using hl) h5 h3.2⟩
def chk2 (ops : Array Oper) (m : Nat) (plan : Pl) : Bool :=
  Region.noSelect ops && nd ops.toList && chk ops m ops.size (Array.replicate ops.size false) plan
theorem wpOp_in {r : Option Nat} {i : Nat} {K K' : Act → World → Prop} {a : Act} {w : World} (hd : nd ops.toList = true) (ho : ∀ a w, ¬ Q .outgrown a w) (hk : ∀ a w, K a w → K' a w) (h : wpOp P ops Q i K a w) : wpOpIn (Fw r) 0 P ops Q i K' a w := by
  unfold wpOp at h
  unfold wpOpIn
  cases e : ops[i]? with
  | none => simp only [e] at h ⊢; exact hk _ _ h
  | some o =>
    simp only [e] at h ⊢
    have hn : nd1 o = true := List.all_eq_true.1 hd o (Array.mem_toList_iff.2 (Array.mem_of_getElem? e))
    by_cases hw : Region.wanted o (yielded ops a.tmps) = true
    · rw [if_pos hw] at h ⊢
      rcases h with h | ⟨_, a', w', h⟩
      · exact oper_in hn (Oper.wp_mono hk h)
      · exact absurd h (ho a' w')
    · rw [if_neg hw] at h ⊢
      exact ⟨fun _ _ => trivial, hk _ _ h⟩
theorem wpAny_in {r : Option Nat} (hd : nd ops.toList = true) (ho : ∀ a w, ¬ Q .outgrown a w) : ∀ (n : Nat) (l : Array Bool) (a : Act) (w : World), wpAny P .any ops Q n l a w → wpAnyIn (Fw r) 0 P .any ops Q n l a w
  | 0, _, _, _, h => h
  | n + 1, l, a, w, h => ⟨h.1, fun i hi => wpOp_in hd ho (fun a' w' => wpAny_in hd ho n _ a' w') (h.2 i hi)⟩
end

section
variable {C : Cx} {E E' E1 E2 E3 : List (Nat × Value)} {L L' L0 R R' R0 : List Asn} {K : Act → World → Prop} {Q : Exit → Act → World → Prop}
  {ops : Array Oper} {d i m : Nat} {v x y : Value} {o : Oper} {S0 : World → Prop} {z : Bool} {rest r2 : Pl}
theorem Post.draw {id : Nat} (m : Nat) (plan : Pl) (hm : C.P.follows .mixedOrders = true) (hq : QP Q) (hc : chk2 ops m plan = true)
    (h : Post C E L R (lin C.P ops Q (Sat C.w0 C.D C.G L R) m false plan)) : Post C E L R (wq C (Code.region id ops true) Q) := fun a w he hs => by
  simp only [chk2, Bool.and_eq_true, beq_iff_eq] at hc
  obtain ⟨⟨h1, h2⟩, h3⟩ := hc
  refine wpIn_region_any hm (wpAny_in h2 hq.2 _ _ _ _ (anyM_any _ _ _ _ (lin_any h1 hq.1 plan _ _ a _ false ?_ (.inr (hs.drewn _)) (by simp) h3 (h _ _ he (hs.drewn _)))))
  simp [Array.getD, Array.getElem_replicate]
/-- Is an operation of the region carried out? -/
def Wn (E : List (Nat × Value)) (ops : Array Oper) (o : Oper) (b : Bool) : Prop := ∀ n a, Env n E a → Region.wanted o (yielded ops a.tmps) = b
theorem Wn.n (h : o.guard = none) : Wn E ops o true := fun _ _ _ => by simp [Region.wanted, h]
theorem Wn.g {j s : Nat} {zz z' : Bool} (h : o.guard = some (j, zz)) (hj : (ops[j]?).bind (·.dst) = some s) (hm : Ev E (.tmp s) (.bool z') E') (hz : (z' == zz) = z) : Wn E ops o z := fun n a he => by
  subst hz
  simp only [Region.wanted, h, yielded_of hj hm he]
  cases z' <;> cases zz <;> rfl
theorem Post.dpu (ho : ops[i]? = some o) (hw : Wn E ops o true) (h : OpP C E o v E') (hd : o.dst = some d) (hf : fr E' d C.n.n = true)
    (k : Post C ((d, v) :: E') L R (lin C.P ops Q S0 m z rest)) : Post C E L R (lin C.P ops Q S0 m z (.on i .pu rest)) := fun a w he hs =>
  ⟨o, v, ho, .inl ⟨hw _ a he, fun w' _ => (h a w' he).1⟩, by rw [hd]; exact k _ _ ((h a w he).2.put hf) hs⟩
/-- The same where nobody looks at the value. -/
theorem Post.dpu0 (ho : ops[i]? = some o) (hw : Wn E ops o true) (h : OpP C E o v E') (hd : o.dst = some d) (hf : (E'.all fun x => x.1 != d) = true)
    (k : Post C E' L R (lin C.P ops Q S0 m z rest)) : Post C E L R (lin C.P ops Q S0 m z (.on i .pu rest)) := fun a w he hs =>
  ⟨o, v, ho, .inl ⟨hw _ a he, fun w' _ => (h a w' he).1⟩, by rw [hd]; exact k _ _ ((h a w he).2.putn hf) hs⟩
theorem Post.dsk (ho : ops[i]? = some o) (hw : Wn E ops o false) (hd : o.dst = some d) (hf : (E.all fun x => x.1 != d) = true)
    (k : Post C E L R (lin C.P ops Q S0 m z rest)) : Post C E L R (lin C.P ops Q S0 m z (.on i .pu rest)) := fun a w he hs =>
  ⟨o, undef, ho, .inr ⟨hw _ a he, rfl⟩, by rw [hd]; exact k _ _ (he.putn hf) hs⟩
theorem Post.dld (ho : ops[i]? = some o) (hw : Wn E ops o true) (h : OpV C E L0 R0 o v E') (hL : ∀ w, Sat C.w0 C.D C.G L R w → Sat C.w0 C.D C.G L0 R0 w) (hd : o.dst = some d) (hf : fr E' d C.n.n = true)
    (k : Post C ((d, v) :: E') L R (lin C.P ops Q (Sat C.w0 C.D C.G L0 R0) m z rest)) : Post C E L R (lin C.P ops Q (Sat C.w0 C.D C.G L0 R0) m z (.on i .ld rest)) := fun a w he hs =>
  ⟨o, v, ho, .inl ⟨hw _ a he, fun w' hs' => (h a w' he hs').1⟩, hL w hs, by rw [hd]; exact k _ _ ((h a w he (hL w hs)).2.put hf) hs⟩
theorem Post.dgo {α : Type} {φ : α → Prop} {EX : α → List (Nat × Value)} {LX RX : α → List Asn} (ho : ops[i]? = some o) (hw : Wn E ops o true) (h : OpG C Q E L R o φ EX LX RX)
    (hS : (z || i == m) = true ∨ ∀ x w', φ x → Sat C.w0 C.D C.G (LX x) (RX x) w' → S0 w') (k : ∀ x, φ x → Post C (EX x) (LX x) (RX x) (lin C.P ops Q S0 m (z || i == m) rest)) :
    Post C E L R (lin C.P ops Q S0 m z (.on i .go rest)) := fun a w he hs => by
  unfold lin linG wpOp
  simp only [ho, hw _ a he, if_true]
  exact .inl (h a w _ he hs fun x hx a' w' he' hs' => ⟨hS.imp id fun f => f x w' hx hs', k x hx a' w' he' hs'⟩)
theorem Post.dnil (h : Post C E L R (Q .normal)) : Post C E L R (lin C.P ops Q S0 m z .nl) := h
/-- A region whose end is told once. -/
theorem Post.dcut {γ : Type} {c : Code} {φ : γ → Prop} {E1 : γ → List (Nat × Value)} {L1 R1 : γ → List Asn}
    (h : Post C E L R (wq C c (Exit.then (fun a w => ∃ x, φ x ∧ St C (E1 x) (L1 x) (R1 x) a w) Q)))
    (k : ∀ x, φ x → Post C (E1 x) (L1 x) (R1 x) (Q .normal)) : Post C E L R (wq C c Q) := fun a w he hs =>
  wpIn_mono (h a w he hs) fun e a w q => by
    cases e <;> first | exact q | skip
    obtain ⟨x, hx, e, s⟩ := q
    exact k x hx a w e s
/-- Two may come first. -/
theorem Post.dfk {j : Nat} (h1 : Post C E L R (lin C.P ops Q S0 m z (.on i .go rest))) (h2 : Post C E L R (lin C.P ops Q S0 m z (.on j .go r2))) :
    Post C E L R (lin C.P ops Q S0 m z (.fk i j rest r2)) := fun a w he hs => ⟨h1 a w he hs, h2 a w he hs⟩
theorem QP.body {P : Program} {fn : Func} {R : Ending → World → Prop} : QP (bodyQ P fn R) := ⟨fun c d v a w h => h, fun a w h => h⟩
theorem QP.thn {K : Act → World → Prop} (h : QP Q) : QP (Exit.then K Q) := ⟨fun c d v a w x => h.1 c d v a w x, h.2⟩
theorem QP.inb {id : Nat} (h : QP Q) : QP (Exit.inBlock id Q) := ⟨fun c d v a w x => h.1 c d v a w x, h.2⟩
end
end Go.Sl
