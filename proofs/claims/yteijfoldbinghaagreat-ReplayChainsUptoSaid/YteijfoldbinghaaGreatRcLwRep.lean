/- Replay: what any events come to. -/
import Derived.Test.YteijfoldbinghaaGreatRcLwEsc
set_option linter.unusedVariables false
set_option linter.unusedSimpArgs false
namespace Go.Sl
/-- Times and lists are in their bounds. -/
structure okT (n : Nat) (s : escrow_State) : Prop where
  t0 : 0 ≤ s.Time
  t1 : s.Time ≤ 1099511627776
  lk : s.Locks.length ≤ n
theorem okT.up {n m : Nat} {s : escrow_State} (h : okT n s) (hm : n ≤ m) : okT m s := ⟨h.t0, h.t1, by have := h.lk; omega⟩
theorem okG (a b : Int) : okT 0 (escrow_Genesis a b) := by
  unfold escrow_Genesis
  refine ⟨?_, ?_, Nat.le_refl _⟩ <;> dsimp only <;> (try split) <;> (try split) <;> omega
def later (s : escrow_State) (t : Int) : escrow_State := { s with Time := upT s.Time (IntKind.i64.wrap ((if s.Time > t then s.Time else t) - s.Time)) }
theorem later_ok {n : Nat} {s : escrow_State} {t : Int} (h : okT n s) : okT n (later s t) := by
  have := upT_le (k := IntKind.i64.wrap ((if s.Time > t then s.Time else t) - s.Time)) h.t1
  have h0 := h.t0
  exact ⟨by unfold later; dsimp only; omega, by unfold later; dsimp only; omega, h.lk⟩
theorem later_val {n : Nat} {s : escrow_State} {t : Int} (h : okT n s) (hn : n ≤ 1000) : escrow_Rise s (IntKind.i64.wrap ((if s.Time > t then s.Time else t) - s.Time)) = some (later s t) := Rise_val h.t0 h.t1 (by have := h.lk; omega)
theorem upT_0 {t : Int} (h0 : 0 ≤ t) (h : t ≤ 1099511627776) : upT t 0 = t := by unfold upT; omega
theorem later_self {n : Nat} {s : escrow_State} {t : Int} (h : okT n s) (ht : ¬ t > s.Time) : later s t = s := by
  unfold later
  have e : (if s.Time > t then s.Time else t) = s.Time := by split <;> omega
  rw [e, Int.sub_self, wrap64 (by omega) (by omega), upT_0 h.t0 h.t1]
theorem step_spec {n : Nat} {s : escrow_State} (e : api_Event) (h : okT n s) (hn : n ≤ 1000) : ∃ q, escrow_Apply (later s e.Time) e.Tx = some q ∧ okT (n + 1) q.1 ∧ q.1.Time = (later s e.Time).Time ∧
    replay_step s e = some (if (if q.2.2 = true then decide (q.2.1 = e.Code) else false) = true then (q.1, true) else (s, false)) := by
  have hk := later_ok (t := e.Time) h
  obtain ⟨q, hq, h1, h2, h3, h4⟩ := Apply_tot (later s e.Time) e.Tx (by have := hk.lk; omega)
  refine ⟨q, hq, ⟨by rw [h2]; exact hk.t0, by rw [h2]; exact hk.t1, by have := hk.lk; omega⟩, h2, ?_⟩
  unfold replay_step
  rw [later_val h hn, Option.bind_some, hq, Option.bind_some]
  unfold thn
  cases q.2.2 <;> by_cases hc : q.2.1 = e.Code <;> simp [hc]
noncomputable def stepT (s : escrow_State) (e : api_Event) : escrow_State × Bool := (replay_step s e).getD (s, false)
theorem stepT_val {n : Nat} {s : escrow_State} (e : api_Event) (h : okT n s) (hn : n ≤ 1000) : replay_step s e = some (stepT s e) ∧ okT (n + 1) (stepT s e).1 ∧ ((stepT s e).2 = false → (stepT s e).1 = s) := by
  obtain ⟨q, hq, hk, _, hr⟩ := step_spec e h hn
  unfold stepT
  rw [hr, Option.getD_some]
  generalize (if q.2.2 = true then decide (q.2.1 = e.Code) else false) = c
  cases c
  · exact ⟨rfl, h.up (by omega), fun _ => rfl⟩
  · exact ⟨rfl, hk, fun h => by simp at h⟩
noncomputable def run (s : escrow_State) : List api_Event → escrow_State × Nat
  | [] => (s, 0)
  | e :: l => if (stepT s e).2 = true then ((run (stepT s e).1 l).1, (run (stepT s e).1 l).2 + 1) else (s, 0)
theorem drop_at {α : Type} {l : List α} {i : Nat} {x : α} (h : l[i]? = some x) : l.drop i = x :: l.drop (i + 1) := by
  obtain ⟨h1, h2⟩ := List.getElem?_eq_some_iff.1 h
  rw [← h2]; exact (List.drop_eq_getElem_cons h1)
theorem State_val {l : List api_Event} (a b : Int) (hl : l.length ≤ 900) : replay_State l a b = some ((run (escrow_Genesis a b) l).1, ((run (escrow_Genesis a b) l).2 : Int)) := by
  obtain ⟨R, hR⟩ : ∃ R, run (escrow_Genesis a b) l = R := ⟨_, rfl⟩
  rw [hR]
  have key : Tt (replay_State l a b) (fun r => r = (R.1, (R.2 : Int))) := by
    unfold replay_State
    refine Tt.loopR (fun i s => okT i s ∧ R = ((run s (l.drop i)).1, i + (run s (l.drop i)).2)) ⟨okG a b, by rw [List.drop_zero, hR]; simp⟩ ?_ ?_
    · rintro i x s hx ⟨ho, h2⟩
      have hi : i < l.length := (List.getElem?_eq_some_iff.1 hx).1
      obtain ⟨g1, g2, g3⟩ := stepT_val x ho (by omega)
      rw [drop_at hx, run] at h2
      rw [g1, Option.bind_some]
      refine .ite (fun hp => .map (.pure (Q := fun r => r = (R.1, (R.2 : Int))) ?_) fun _ h => h) fun hp => .pure ⟨g2, ?_⟩
      · have hp' : (stepT s x).2 = false := by simpa using hp
        rw [h2, hp']
        simp
      · have hp' : (stepT s x).2 = true := by simpa using hp
        rw [h2, hp']
        simp
        omega
    · rintro s ⟨_, h2⟩
      rw [List.drop_length, run] at h2
      refine .pure ?_
      rw [h2]
      simp
  obtain ⟨r, hr, rfl⟩ := key
  exact hr
theorem run_ok {l : List api_Event} : ∀ {s : escrow_State} {n : Nat}, okT n s → n + l.length ≤ 1000 → okT (n + l.length) (run s l).1 := by
  induction l with
  | nil => intro s n h _; exact h
  | cons e l ih =>
    intro s n h hl
    simp only [List.length_cons] at hl
    obtain ⟨g1, g2, g3⟩ := stepT_val e h (by omega)
    rw [run]
    split
    · have := ih g2 (by omega)
      rw [List.length_cons, show n + (l.length + 1) = n + 1 + l.length by omega]
      exact this
    · exact h.up (by simp)
theorem run_snoc {l : List api_Event} (e : api_Event) : ∀ {s s' : escrow_State}, run s l = (s', l.length) → run s (l ++ [e]) = if (stepT s' e).2 = true then ((stepT s' e).1, l.length + 1) else (s', l.length) := by
  induction l with
  | nil =>
    intro s s' h
    rw [run] at h
    obtain rfl : s = s' := congrArg Prod.fst h
    rw [List.nil_append, run]
    simp only [run]
    split <;> rfl
  | cons x l ih =>
    intro s s' h
    rw [run] at h
    rw [List.cons_append, run]
    by_cases hp : (stepT s x).2 = true
    · rw [if_pos hp] at h ⊢
      obtain ⟨h1, h2⟩ := Prod.mk.inj h
      have := ih (s := (stepT s x).1) (s' := s') (Prod.ext h1 (by simpa using h2))
      rw [this]
      split <;> simp
    · rw [if_neg hp] at h
      simp at h
theorem Equal_self {l : List escrow_Lock} : slices_Equal_escrow_Lock l l = some true := by
  have key : Tt (slices_Equal_escrow_Lock l l) (fun r => r = true) := by
    unfold slices_Equal_escrow_Lock
    rw [if_neg (by simp)]
    refine Tt.loopR (fun _ _ => True) trivial (fun i x s hx _ => ?_) fun _ _ => .pure rfl
    rw [at_nat, hx, Option.bind_some, if_neg (by simp)]
    exact .pure trivial
  obtain ⟨r, hr, rfl⟩ := key
  exact hr
theorem Same_self (s : escrow_State) : replay_Same s s = some true := by
  unfold replay_Same
  simp [thn, Equal_self]
theorem same_self {s : escrow_State} (h : s.Locks.length ≤ 1000000) : narrowslaw37_same s s = some true := by
  have key : Tt (narrowslaw37_same s s) (fun r => r = true) := by
    unfold narrowslaw37_same
    simp only [ne_eq, not_true_eq_false, decide_false, Bool.false_eq_true, if_false, thn]
    refine Tt.loopW (S := fun r : Bool => r = true) (fun k i => ∃ n : Nat, i = n ∧ n ≤ s.Locks.length ∧ k = s.Locks.length - n) (fun _ => True) s.Locks.length ⟨0, rfl, by omega, by omega⟩ ?_ fun _ _ => .pure rfl
    rintro k i ⟨n, rfl, hn, rfl⟩
    refine .ite (fun hp => ?_) fun _ => .pure trivial
    rw [decide_eq_true_iff] at hp
    refine .bind (Tt.at_ (Q := fun x => s.Locks[n]? = some x) (by omega) hp fun x hx => hx) fun x hx => ?_
    rw [at_nat, hx, Option.bind_some, if_neg (by simp)]
    exact .pure ⟨s.Locks.length - (n + 1), by omega, n + 1, by rw [wrap64 (by omega) (by omega)]; rfl, by omega, rfl⟩
  obtain ⟨r, hr, rfl⟩ := key
  exact hr
theorem alive37 : narrowslaw37_alive = some true := by
  unfold narrowslaw37_alive
  rw [State_val 1 7 (l := []) (by simp), Option.bind_some]
  have e : run (escrow_Genesis 1 7) [] = (escrow_Genesis 1 7, 0) := rfl
  have f : replay_First [] [] = some (-1) := by
    have key : Tt (replay_First [] []) (fun r => r = -1) := by
      unfold replay_First
      refine Tt.loopW (fun _ s => s = 0) (fun _ => True) 0 rfl (fun k s hs => ?_) fun _ _ => .pure rfl
      subst hs
      exact .pure trivial
    obtain ⟨r, hr, rfl⟩ := key
    exact hr
  have h1 : (escrow_Genesis 1 7).Side = 1 := by unfold escrow_Genesis; simp
  have h2 : (escrow_Genesis 1 7).Time = 7 := by unfold escrow_Genesis; simp
  rw [e]
  simp [h1, h2, Same_self, f]
end Go.Sl
