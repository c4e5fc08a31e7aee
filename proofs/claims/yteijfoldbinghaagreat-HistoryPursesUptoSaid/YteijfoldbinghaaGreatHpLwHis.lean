/- What events moved; sums. -/
import Derived.Test.YteijfoldbinghaaGreatHpLwWide
set_option linter.unusedVariables false
set_option linter.unusedSimpArgs false
namespace Go.Sl
theorem Add_zero (x : api_Wide) : wide_Add ⟨0, 0, 0, 0⟩ x = (x, true) := by
  obtain ⟨h, _⟩ := wide_Add_spec W0 x
  obtain ⟨p, q⟩ := h (by rw [V_zero]; have := V_lt x; omega)
  rw [V_zero, Nat.zero_add] at q
  have := V_inj q
  show ((wide_Add W0 x).1, (wide_Add W0 x).2) = _
  rw [this, p]
theorem wide_Of_1 : wide_Of 1 = ⟨1, 0, 0, 0⟩ := by unfold wide_Of; rfl
theorem tell_line (e : api_Event) (s a b : Int) (l l' : history_Line) : history_teller_tell ⟨s, a, b, l⟩ e = history_teller_tell ⟨s, a, b, l'⟩ e := by
  unfold history_teller_tell; rfl
theorem tell_self (e : api_Event) (s a b : Int) (l : history_Line) : (history_teller_tell ⟨s, a, b, l⟩ e).2 = ⟨s, a, b, (history_teller_tell ⟨s, a, b, l⟩ e).1⟩ ∧ (history_teller_tell ⟨s, a, b, l⟩ e).1.Time = e.Time ∧ (history_teller_tell ⟨s, a, b, l⟩ e).1.Kind = e.Tx.Kind := by
  have hin : ∀ (t : history_teller) (x y : Int) (z : api_Wide), (history_teller_in t x y z).side = t.side ∧ (history_teller_in t x y z).account = t.account ∧ (history_teller_in t x y z).asset = t.asset ∧ (history_teller_in t x y z).line.Time = t.line.Time ∧ (history_teller_in t x y z).line.Kind = t.line.Kind := fun t x y z => by
    unfold history_teller_in thn; dsimp only; (repeat' split) <;> exact ⟨rfl, rfl, rfl, rfl, rfl⟩
  have hout : ∀ (t : history_teller) (x y : Int) (z : api_Wide), (history_teller_out t x y z).side = t.side ∧ (history_teller_out t x y z).account = t.account ∧ (history_teller_out t x y z).asset = t.asset ∧ (history_teller_out t x y z).line.Time = t.line.Time ∧ (history_teller_out t x y z).line.Kind = t.line.Kind := fun t x y z => by
    unfold history_teller_out thn; dsimp only; (repeat' split) <;> exact ⟨rfl, rfl, rfl, rfl, rfl⟩
  have hdeal : ∀ (t : history_teller) (x : api_Tx), (history_teller_deal t x).side = t.side ∧ (history_teller_deal t x).account = t.account ∧ (history_teller_deal t x).asset = t.asset ∧ (history_teller_deal t x).line.Time = t.line.Time ∧ (history_teller_deal t x).line.Kind = t.line.Kind := fun t x => by
    unfold history_teller_deal thn; dsimp only; (repeat' split) <;> simp [hin, hout]
  have mk : ∀ t : history_teller, t.side = s → t.account = a → t.asset = b → t = ⟨s, a, b, t.line⟩ := fun t h1 h2 h3 => by subst h1; subst h2; subst h3; rfl
  unfold history_teller_tell thn
  dsimp only
  (repeat' split) <;> refine ⟨mk _ ?_ ?_ ?_, ?_, ?_⟩ <;> simp [hin, hout, hdeal]
noncomputable def lineOf (s a b : Int) (e : api_Event) : history_Line := (history_teller_tell ⟨s, a, b, ⟨0, 0, W0, W0⟩⟩ e).1
def seen (x : history_Line) : Bool := decide (x.In ≠ W0) || decide (x.Out ≠ W0)
noncomputable def hl (s a b : Int) (l : List api_Event) : List history_Line := (l.map (lineOf s a b)).filter seen
theorem hl_append (s a b : Int) (l : List api_Event) (e : api_Event) : hl s a b (l ++ [e]) = if seen (lineOf s a b e) = true then hl s a b l ++ [lineOf s a b e] else hl s a b l := by
  unfold hl
  rw [List.map_append, List.filter_append]
  by_cases h : seen (lineOf s a b e) = true
  · simp [h]
  · simp [h]
theorem hl_len (s a b : Int) (l : List api_Event) : (hl s a b l).length ≤ l.length := by
  unfold hl
  have := List.length_filter_le seen (l.map (lineOf s a b))
  simpa using this
theorem take_succ' {α : Type} {l : List α} {i : Nat} {x : α} (h : l[i]? = some x) : l.take (i + 1) = l.take i ++ [x] := by
  rw [List.take_add_one, h]; rfl
theorem Of_spec (l : List api_Event) (sd a b : Int) (hlen : l.length ≤ 1048576) : ∃ r, history_Of l sd a b = some r ∧ r = hl (bandK .i64 sd 1) a b l := by
  unfold history_Of
  generalize bandK .i64 sd 1 = s
  refine loopR_bind (fun i st => (∃ z, st.1 = ⟨s, a, b, z⟩) ∧ st.2 = hl s a b (l.take i)) (fun o => match o with | .dn st => st.2 = hl s a b l | .rt r => False) ⟨⟨_, rfl⟩, by simp [hl]⟩ ?_ ?_ ?_
  · rintro i e ⟨t, out⟩ hx ⟨⟨z, rfl⟩, rfl⟩
    dsimp only
    have hlt := (List.getElem?_eq_some_iff.1 hx).1
    have h1 : (history_teller_tell ⟨s, a, b, z⟩ e).1 = lineOf s a b e := by unfold lineOf; rw [tell_line e s a b z]
    have h2 := (tell_self e s a b z).1
    have hl1 := hl_len s a b (l.take i)
    have hl2 : (l.take i).length ≤ i := by rw [List.length_take]; omega
    rw [h2, h1]
    unfold thn
    by_cases hs : seen (lineOf s a b e) = true
    · have hs' := hs
      unfold seen at hs'
      have hy : (if decide ((lineOf s a b e).In ≠ W0) = true then true else decide ((lineOf s a b e).Out ≠ W0)) = true := by
        rw [Bool.or_eq_true] at hs'
        rcases hs' with h | h
        · rw [if_pos h]
        · split
          · rfl
          · exact h
      rw [hy]
      dsimp only
      rw [if_pos rfl, grd_pos (by simp; omega)]
      refine ⟨_, rfl, ⟨_, rfl⟩, ?_⟩
      rw [take_succ' hx, hl_append, if_pos hs]
    · have hs' : seen (lineOf s a b e) = false := by simpa using hs
      unfold seen at hs'
      rw [Bool.or_eq_false_iff] at hs'
      have hy : (if decide ((lineOf s a b e).In ≠ W0) = true then true else decide ((lineOf s a b e).Out ≠ W0)) = false := by
        rw [if_neg (by rw [hs'.1]; decide), hs'.2]
      rw [hy]
      dsimp only
      rw [if_neg (by decide)]
      refine ⟨_, rfl, ⟨_, rfl⟩, ?_⟩
      rw [take_succ' hx, hl_append, if_neg hs]
  · rintro ⟨t, out⟩ ⟨_, h⟩
    rw [List.take_length] at h
    exact h
  · intro o hq
    cases o with
    | dn st => exact ⟨_, rfl, hq⟩
    | rt r => exact hq.elim
theorem alive31 : narrowslaw31_alive = some true := by
  unfold narrowslaw31_alive
  have hb : history_Balance [] 0 3 1 = some (⟨1000, 0, 0, 0⟩, true) := by
    unfold history_Balance
    obtain ⟨r, hr, rfl⟩ := Of_spec [] 0 3 1 (by simp)
    have h1 : wide_Sum [wide_Of 1000] = some (⟨1000, 0, 0, 0⟩, true) := by
      unfold wide_Sum
      have : wide_Of 1000 = ⟨1000, 0, 0, 0⟩ := by unfold wide_Of; rfl
      simp [loopR, this, Add_zero, Lo.on]
    have h2 : wide_Sum [] = some (⟨0, 0, 0, 0⟩, true) := by
      unfold wide_Sum; rfl
    have h3 : wide_Sub ⟨1000, 0, 0, 0⟩ ⟨0, 0, 0, 0⟩ = (⟨1000, 0, 0, 0⟩, true) := by
      unfold wide_Sub; decide
    rw [hr]
    simp [thn, hl, loopR, Lo.on, h1, h2, h3]
  rw [hb]
  rfl
/-- A sum of a list. -/
def sumV (l : List api_Wide) : Nat := (l.map V).sum
theorem sumV_append (l : List api_Wide) (x : api_Wide) : sumV (l ++ [x]) = sumV l + V x := by simp [sumV]
theorem sumV_take_le (l : List api_Wide) (i : Nat) : sumV (l.take i) ≤ sumV l := by
  have : sumV l = sumV (l.take i) + sumV (l.drop i) := by
    unfold sumV; rw [← List.sum_append, ← List.map_append, List.take_append_drop]
  omega
theorem wide_Sum_spec (l : List api_Wide) : ∃ r, wide_Sum l = some r ∧ ((sumV l < B256 → r.2 = true ∧ V r.1 = sumV l) ∧ (B256 ≤ sumV l → r = (W0, false))) := by
  unfold wide_Sum
  refine loopR_bind (fun i s => V s = sumV (l.take i)) (fun o => match o with | .dn s => V s = sumV l | .rt r => B256 ≤ sumV l ∧ r = (W0, false)) (by rw [show V (⟨0, 0, 0, 0⟩ : api_Wide) = 0 from V_zero]; rfl) ?_ ?_ ?_
  · intro i x s hx hs
    dsimp only
    have h := wide_Add_spec s x
    have ht : sumV (l.take (i + 1)) = sumV (l.take i) + V x := by rw [take_succ' hx, sumV_append]
    have hle := sumV_take_le l (i + 1)
    by_cases hb : V s + V x < B256
    · obtain ⟨p, q⟩ := h.1 hb
      rw [p]
      refine ⟨_, rfl, ?_⟩
      show V (wide_Add s x).1 = _
      rw [q, ht, hs]
    · have := h.2 (by omega)
      rw [this]
      exact ⟨_, rfl, by omega, rfl⟩
  · intro s hs
    rw [List.take_length] at hs
    exact hs
  · rintro (s | r) h
    · have h' : V s = sumV l := h
      refine ⟨_, rfl, fun _ => ⟨rfl, h'⟩, fun hb => ?_⟩
      have := V_lt s; omega
    · exact ⟨_, rfl, fun hb => absurd h.1 (by omega), fun _ => h.2⟩
end Go.Sl
