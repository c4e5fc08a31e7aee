/- The state of any events is as the page says. -/
import Derived.Test.YteijfoldbinghaaLbLwRep
set_option linter.unusedVariables false
set_option linter.unusedSimpArgs false
namespace Go.Sl
theorem ReplayTells_true (l0 : List api_Event) (a b : Int) (_ : l0.length ≤ 1048576) : ∃ r, narrowslaw37_ReplayTells l0 a b = some r ∧ r = true := by
  show Tt _ (fun r => r = true)
  unfold narrowslaw37_ReplayTells
  rw [alive37, Option.bind_some]
  refine .ite (fun h => by simp at h) fun _ => ?_
  refine .bind (P := fun l : List api_Event => l.length ≤ 30) (.ite (fun hp => ?_) fun hp => .pure ?_) fun l hl => ?_
  · rw [decide_eq_true_iff] at hp
    refine .grd (by unfold okS; simp; omega) (.pure ?_)
    simp [slc]; omega
  · rw [decide_eq_false_iff_not] at hp; omega
  obtain ⟨R, hR⟩ : ∃ R, run (escrow_Genesis a b) l = R := ⟨_, rfl⟩
  have hok : okT 30 R.1 := by rw [← hR]; exact (run_ok (l := l) (okG a b) (by omega)).up (by omega)
  refine Tt.loopW (S := fun r : Bool => r = true) (fun k s => ∃ i : Nat, s.1 = i ∧ i ≤ l.length ∧ k = l.length - i ∧ ((s.2.1 = i ∧ okT i s.2.2 ∧ R = ((run s.2.2 (l.drop i)).1, i + (run s.2.2 (l.drop i)).2)) ∨ (s.2.1 < i ∧ s.2.1 = R.2 ∧ s.2.2 = R.1))) (fun s => s.2.1 = R.2 ∧ s.2.2 = R.1) l.length ⟨0, rfl, by omega, by omega, .inl ⟨rfl, okG a b, by rw [List.drop_zero, hR]; simp⟩⟩ ?_ ?_
  · rintro k ⟨i0, n, s⟩ ⟨i, rfl, hi, rfl, hs⟩
    dsimp only at *
    unfold thn
    refine .ite (fun hp => ?_) fun hp => .pure ?_
    · have hlt : i < l.length := by by_cases h : (i : Int) < (l.length : Int); omega; simp [h] at hp
      have hn : n = i := by by_cases h : n = (i : Int); exact h; simp [h] at hp
      subst hn
      rcases hs with ⟨_, ho, h2⟩ | ⟨h, _⟩
      case inr => omega
      obtain ⟨x, hx⟩ : ∃ x, l[i]? = some x := ⟨_, List.getElem?_eq_getElem hlt⟩
      have ha : at_ l (i : Int) = some x := by rw [at_nat, hx]
      obtain ⟨q, hq, hk, ht, hr⟩ := step_spec x ho (by omega)
      have hT : stepT s x = (if (if q.2.2 = true then decide (q.2.1 = x.Code) else false) = true then (q.1, true) else (s, false)) := by unfold stepT; rw [hr]; rfl
      rw [drop_at hx, run, hT] at h2
      simp only [ha, Option.bind_some]
      have hl8 : (if decide (x.Time > s.Time) = true then Option.bind (escrow_Rise s (IntKind.i64.wrap (x.Time - s.Time))) fun r52 => some r52 else some s) = some (later s x.Time) := by
        by_cases h : x.Time > s.Time
        · rw [if_pos (decide_eq_true h)]
          have := later_val (t := x.Time) ho (by omega)
          rw [if_neg (by omega)] at this
          rw [this, Option.bind_some]
        · rw [if_neg (by simpa using h), later_self ho h]
      rw [hl8, Option.bind_some, hq, Option.bind_some]
      have hy : (if q.2.2 = true then some (decide (q.2.1 = x.Code)) else some false) = some (if q.2.2 = true then decide (q.2.1 = x.Code) else false) := by split <;> rfl
      rw [hy, Option.bind_some]
      have w : ∀ m : Int, m = i → IntKind.i64.wrap (m + 1) = ((i + 1 : Nat) : Int) := fun m hm => by rw [hm, wrap64 (by omega) (by omega)]; rfl
      by_cases hc : (if q.2.2 = true then decide (q.2.1 = x.Code) else false) = true
      · rw [if_pos hc] at h2 ⊢
        refine .pure ⟨l.length - (i + 1), by omega, i + 1, w _ rfl, by omega, rfl, .inl ⟨w _ rfl, hk, ?_⟩⟩
        rw [h2]
        simp
        omega
      · rw [if_neg hc] at h2 ⊢
        refine .pure ⟨l.length - (i + 1), by omega, i + 1, w _ rfl, by omega, rfl, .inr ⟨by dsimp only; omega, ?_, ?_⟩⟩
        · rw [h2]; simp
        · rw [h2]; simp
    · rcases hs with ⟨hn, ho, h2⟩ | ⟨hn, h2, h3⟩
      · have hlt : ¬ i < l.length := fun h => by
          rw [if_pos (decide_eq_true (by omega)), decide_eq_false_iff_not] at hp
          exact hp hn
        have : i = l.length := by omega
        subst this
        rw [List.drop_length, run] at h2
        rw [h2]
        exact ⟨by simpa using hn, rfl⟩
      · exact ⟨h2, h3⟩
  · rintro ⟨i, n, s⟩ ⟨h1, h2⟩
    dsimp only at *
    subst h1 h2
    rw [State_val a b (by omega), hR, Option.bind_some, same_self (s := R.1) (by have := hok.lk; omega)]
    exact .pure (by simp)
end Go.Sl
