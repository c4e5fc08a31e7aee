/- The plain law of history.Of. -/
import Derived.Test.YteijfoldbinghaaSlGh
import Derived.Test.YteijfoldbinghaaSlWide
set_option linter.unusedVariables false
set_option linter.unusedSimpArgs false
namespace Go.Sl
theorem Add_zero (x : api_Wide) : wide_Add ⟨0, 0, 0, 0⟩ x = (x, true) := by
  obtain ⟨h, _⟩ := wide_Add_spec W0 x
  obtain ⟨p, q⟩ := h (by rw [V_zero]; have := V_lt x; omega)
  rw [V_zero, Nat.zero_add] at q
  have := V_inj q
  show ((wide_Add W0 x).1, (wide_Add W0 x).2) = _
  rw [this, p]
theorem wide_Of_1 : wide_Of 1 = ⟨1, 0, 0, 0⟩ := by unfold wide_Of; rfl
theorem moved_tell (e : api_Event) (s a b : Int) (l : history_Line) : narrowslaw31_moved e s a b = some ((history_teller_tell ⟨s, a, b, l⟩ e).1.In, (history_teller_tell ⟨s, a, b, l⟩ e).1.Out) := by
  unfold narrowslaw31_moved history_teller_tell history_teller_deal history_teller_in history_teller_out
  simp only [refAdd_eq, refSub_eq, Option.bind_some, thn, wide_Of_1]
  rcases Classical.em (b = 0) with rfl | p2 <;> by_cases h1 : e.Code = 0
  · by_cases k1 : e.Tx.Kind = 1
    · by_cases p1 : e.Tx.From = a <;> by_cases p3 : e.Tx.Asset = 0 <;> by_cases p4 : e.Tx.Inv.To = a <;> simp [h1, k1, p1, p3, p4, Add_zero]
    · by_cases k2 : e.Tx.Kind = 2
      · by_cases p1 : e.Tx.From = a <;> by_cases p3 : e.Tx.Asset = 0 <;> simp [h1, k2, p1, p3, Add_zero]
      · by_cases k3 : e.Tx.Kind = 3
        · by_cases p1 : e.Tx.From = a <;> by_cases p3 : e.Tx.Asset = 0 <;> simp [h1, k3, p1, p3, Add_zero]
        · by_cases k4 : e.Tx.Kind = 4
          · by_cases p1 : e.Tx.From = a <;> by_cases p3 : s = 0 <;> by_cases p4 : e.Tx.Inv.User = a <;> by_cases p5 : e.Tx.Inv.Send = 0 <;> simp [h1, k4, p1, p3, p4, p5, Add_zero]
          · by_cases k5 : e.Tx.Kind = 5
            · by_cases p1 : e.Tx.From = a <;> by_cases p3 : s = 1 <;> by_cases p4 : e.Tx.Inv.To = a <;> by_cases p5 : e.Tx.Inv.Recv = 0 <;> simp [h1, k5, p1, p3, p4, p5, Add_zero]
            · by_cases k6 : e.Tx.Kind = 6
              · by_cases p1 : e.Tx.From = a <;> by_cases p3 : s = 0 <;> by_cases p4 : e.Tx.Inv.User = a <;> by_cases p5 : e.Tx.Inv.Send = 0 <;> simp [h1, k6, p1, p3, p4, p5, Add_zero]
              · by_cases p1 : e.Tx.From = a <;> simp [h1, k1, k2, k3, k4, k5, k6, p1, Add_zero]
  · by_cases p1 : e.Tx.From = a <;> simp [h1, p1, Add_zero]
  · by_cases k1 : e.Tx.Kind = 1
    · by_cases p1 : e.Tx.From = a <;> by_cases p3 : e.Tx.Asset = b <;> by_cases p4 : e.Tx.Inv.To = a <;> simp [h1, k1, p1, p2, Ne.symm p2, p3, p4, Add_zero]
    · by_cases k2 : e.Tx.Kind = 2
      · by_cases p1 : e.Tx.From = a <;> by_cases p3 : e.Tx.Asset = b <;> simp [h1, k2, p1, p2, Ne.symm p2, p3, Add_zero]
      · by_cases k3 : e.Tx.Kind = 3
        · by_cases p1 : e.Tx.From = a <;> by_cases p3 : e.Tx.Asset = b <;> simp [h1, k3, p1, p2, Ne.symm p2, p3, Add_zero]
        · by_cases k4 : e.Tx.Kind = 4
          · by_cases p1 : e.Tx.From = a <;> by_cases p3 : s = 0 <;> by_cases p4 : e.Tx.Inv.User = a <;> by_cases p5 : e.Tx.Inv.Send = b <;> simp [h1, k4, p1, p2, Ne.symm p2, p3, p4, p5, Add_zero]
          · by_cases k5 : e.Tx.Kind = 5
            · by_cases p1 : e.Tx.From = a <;> by_cases p3 : s = 1 <;> by_cases p4 : e.Tx.Inv.To = a <;> by_cases p5 : e.Tx.Inv.Recv = b <;> simp [h1, k5, p1, p2, Ne.symm p2, p3, p4, p5, Add_zero]
            · by_cases k6 : e.Tx.Kind = 6
              · by_cases p1 : e.Tx.From = a <;> by_cases p3 : s = 0 <;> by_cases p4 : e.Tx.Inv.User = a <;> by_cases p5 : e.Tx.Inv.Send = b <;> simp [h1, k6, p1, p2, Ne.symm p2, p3, p4, p5, Add_zero]
              · by_cases p1 : e.Tx.From = a <;> simp [h1, k1, k2, k3, k4, k5, k6, p1, p2, Ne.symm p2, Add_zero]
  · by_cases p1 : e.Tx.From = a <;> simp [h1, p1, p2, Ne.symm p2, Add_zero]
theorem tell_line (e : api_Event) (s a b : Int) (l l' : history_Line) : history_teller_tell ⟨s, a, b, l⟩ e = history_teller_tell ⟨s, a, b, l'⟩ e := by
  unfold history_teller_tell; rfl
theorem tell_self (e : api_Event) (s a b : Int) (l : history_Line) : (history_teller_tell ⟨s, a, b, l⟩ e).2 = ⟨s, a, b, (history_teller_tell ⟨s, a, b, l⟩ e).1⟩ ∧ (history_teller_tell ⟨s, a, b, l⟩ e).1.Time = e.Time ∧ (history_teller_tell ⟨s, a, b, l⟩ e).1.Kind = e.Tx.Kind := by
  have hin : ∀ (t : history_teller) (x y : Int) (z : api_Wide), (history_teller_in t x y z).side = t.side ∧ (history_teller_in t x y z).account = t.account ∧ (history_teller_in t x y z).asset = t.asset ∧ (history_teller_in t x y z).line.Time = t.line.Time ∧ (history_teller_in t x y z).line.Kind = t.line.Kind := fun t x y z => by
    unfold history_teller_in thn; dsimp only; (repeat' split) <;> exact ⟨rfl, rfl, rfl, rfl, rfl⟩
  have hout : ∀ (t : history_teller) (x y : Int) (z : api_Wide), (history_teller_out t x y z).side = t.side ∧ (history_teller_out t x y z).account = t.account ∧ (history_teller_out t x y z).asset = t.asset ∧ (history_teller_out t x y z).line.Time = t.line.Time ∧ (history_teller_out t x y z).line.Kind = t.line.Kind := fun t x y z => by
    unfold history_teller_out thn; dsimp only; (repeat' split) <;> exact ⟨rfl, rfl, rfl, rfl, rfl⟩
  have hdeal : ∀ (t : history_teller) (x : api_Tx), (history_teller_deal t x).side = t.side ∧ (history_teller_deal t x).account = t.account ∧ (history_teller_deal t x).asset = t.asset ∧ (history_teller_deal t x).line.Time = t.line.Time ∧ (history_teller_deal t x).line.Kind = t.line.Kind := fun t x => by
    unfold history_teller_deal thn; dsimp only; (repeat' split) <;> simp [hin, hout]
  have mk : ∀ t : history_teller, t.side = s → t.account = a → t.asset = b → t = ⟨s, a, b, t.line⟩ := fun t h1 h2 h3 => by subst h1; subst h2; subst h3; rfl
  unfold history_teller_tell thn
  dsimp only
  (repeat' split) <;> refine ⟨mk _ ?_ ?_ ?_, ?_, ?_⟩ <;> simp [hin, hout, hdeal]
noncomputable def lineOf (s a b : Int) (e : api_Event) : history_Line := (history_teller_tell ⟨s, a, b, ⟨0, 0, W0, W0⟩⟩ e).1
def seen (x : history_Line) : Bool := decide (x.In ≠ W0) || decide (x.Out ≠ W0)
noncomputable def hl (s a b : Int) (l : List api_Event) : List history_Line := (l.map (lineOf s a b)).filter seen
theorem hl_append (s a b : Int) (l : List api_Event) (e : api_Event) : hl s a b (l ++ [e]) = if seen (lineOf s a b e) = true then hl s a b l ++ [lineOf s a b e] else hl s a b l := by
  unfold hl
  rw [List.map_append, List.filter_append]
  by_cases h : seen (lineOf s a b e) = true
  · simp [h]
  · simp [h]
theorem hl_len (s a b : Int) (l : List api_Event) : (hl s a b l).length ≤ l.length := by
  unfold hl
  have := List.length_filter_le seen (l.map (lineOf s a b))
  simpa using this
theorem take_succ' {α : Type} {l : List α} {i : Nat} {x : α} (h : l[i]? = some x) : l.take (i + 1) = l.take i ++ [x] := by
  rw [List.take_add_one, h]; rfl
theorem Of_spec (l : List api_Event) (sd a b : Int) (hlen : l.length ≤ 1048576) : ∃ r, history_Of l sd a b = some r ∧ r = hl (bandK .i64 sd 1) a b l := by
  unfold history_Of
  generalize bandK .i64 sd 1 = s
  refine loopR_bind (fun i st => (∃ z, st.1 = ⟨s, a, b, z⟩) ∧ st.2 = hl s a b (l.take i)) (fun o => match o with | .dn st => st.2 = hl s a b l | .rt r => False) ⟨⟨_, rfl⟩, by simp [hl]⟩ ?_ ?_ ?_
  · rintro i e ⟨t, out⟩ hx ⟨⟨z, rfl⟩, rfl⟩
    dsimp only
    have hlt := (List.getElem?_eq_some_iff.1 hx).1
    have h1 : (history_teller_tell ⟨s, a, b, z⟩ e).1 = lineOf s a b e := by unfold lineOf; rw [tell_line e s a b z]
    have h2 := (tell_self e s a b z).1
    have hl1 := hl_len s a b (l.take i)
    have hl2 : (l.take i).length ≤ i := by rw [List.length_take]; omega
    rw [h2, h1]
    unfold thn
    by_cases hs : seen (lineOf s a b e) = true
    · have hs' := hs
      unfold seen at hs'
      have hy : (if decide ((lineOf s a b e).In ≠ W0) = true then true else decide ((lineOf s a b e).Out ≠ W0)) = true := by
        rw [Bool.or_eq_true] at hs'
        rcases hs' with h | h
        · rw [if_pos h]
        · split
          · rfl
          · exact h
      rw [hy]
      dsimp only
      rw [if_pos rfl, grd_pos (by simp; omega)]
      refine ⟨_, rfl, ⟨_, rfl⟩, ?_⟩
      rw [take_succ' hx, hl_append, if_pos hs]
    · have hs' : seen (lineOf s a b e) = false := by simpa using hs
      unfold seen at hs'
      rw [Bool.or_eq_false_iff] at hs'
      have hy : (if decide ((lineOf s a b e).In ≠ W0) = true then true else decide ((lineOf s a b e).Out ≠ W0)) = false := by
        rw [if_neg (by rw [hs'.1]; decide), hs'.2]
      rw [hy]
      dsimp only
      rw [if_neg (by decide)]
      refine ⟨_, rfl, ⟨_, rfl⟩, ?_⟩
      rw [take_succ' hx, hl_append, if_neg hs]
  · rintro ⟨t, out⟩ ⟨_, h⟩
    rw [List.take_length] at h
    exact h
  · intro o hq
    cases o with
    | dn st => exact ⟨_, rfl, hq⟩
    | rt r => exact hq.elim
theorem alive31 : narrowslaw31_alive = some true := by
  unfold narrowslaw31_alive
  have hb : history_Balance [] 0 3 1 = some (⟨1000, 0, 0, 0⟩, true) := by
    unfold history_Balance
    obtain ⟨r, hr, rfl⟩ := Of_spec [] 0 3 1 (by simp)
    have h1 : wide_Sum [wide_Of 1000] = some (⟨1000, 0, 0, 0⟩, true) := by
      unfold wide_Sum
      have : wide_Of 1000 = ⟨1000, 0, 0, 0⟩ := by unfold wide_Of; rfl
      simp [loopR, this, Add_zero, Lo.on]
    have h2 : wide_Sum [] = some (⟨0, 0, 0, 0⟩, true) := by
      unfold wide_Sum; rfl
    have h3 : wide_Sub ⟨1000, 0, 0, 0⟩ ⟨0, 0, 0, 0⟩ = (⟨1000, 0, 0, 0⟩, true) := by
      unfold wide_Sub; decide
    rw [hr]
    simp [thn, hl, loopR, Lo.on, h1, h2, h3]
  rw [hb]
  rfl
theorem HistoryTells_true (l : List api_Event) (sd a b : Int) (hlen : l.length ≤ 1048576) : ∃ r, narrowslaw31_HistoryTells l sd a b = some r ∧ r = true := by
  unfold narrowslaw31_HistoryTells
  rw [alive31, Option.bind_some, if_neg (by decide)]
  obtain ⟨w, hw, hw'⟩ := Of_spec l sd a b hlen
  generalize bandK .i64 sd 1 = s at *
  refine loopW_bind (fun k st => ∃ n : Nat, st.1 = n ∧ n ≤ l.length ∧ k = l.length - n ∧ st.2 = hl s a b (l.take n)) (fun o => match o with | .dn st => st.2 = w | .rt r => False) l.length ⟨0, rfl, by omega, by omega, by simp [hl]⟩ ?_ ?_
  · rintro k ⟨i, out⟩ ⟨n, rfl, hn, rfl, rfl⟩
    dsimp only
    by_cases hlt : n < l.length
    · rw [if_pos (decide_eq_true (by omega))]
      have hx := List.getElem?_eq_getElem hlt
      generalize l[n] = e at hx
      have hwr : IntKind.i64.wrap ((n : Int) + 1) = ((n + 1 : Nat) : Int) := by rw [wrap64 (by omega) (by omega)]; simp
      have hl1 := hl_len s a b (l.take n)
      have hl2 : (l.take n).length ≤ n := by rw [List.length_take]; omega
      have e1 : (⟨e.Time, e.Tx.Kind, (lineOf s a b e).In, (lineOf s a b e).Out⟩ : history_Line) = lineOf s a b e := by
        obtain ⟨_, t1, t2⟩ := tell_self e s a b ⟨0, 0, W0, W0⟩
        unfold lineOf
        rw [← t1, ← t2]
      rw [at_nat, hx, Option.bind_some, moved_tell e s a b ⟨0, 0, W0, W0⟩, Option.bind_some, hwr]
      change ∃ c, Option.bind (thn (if decide ((lineOf s a b e).In ≠ W0) = true then true else decide ((lineOf s a b e).Out ≠ W0)) _) _ = some c ∧ _
      unfold thn
      by_cases hs : seen (lineOf s a b e) = true
      · have hs' := hs
        unfold seen at hs'
        have hy : (if decide ((lineOf s a b e).In ≠ W0) = true then true else decide ((lineOf s a b e).Out ≠ W0)) = true := by
          rw [Bool.or_eq_true] at hs'
          rcases hs' with h | h
          · rw [if_pos h]
          · split
            · rfl
            · exact h
        rw [hy]
        dsimp only
        rw [if_pos rfl, Option.bind_some, Option.bind_some, grd_pos (by simp; omega)]
        refine ⟨_, rfl, l.length - (n + 1), by omega, n + 1, rfl, by omega, rfl, ?_⟩
        rw [take_succ' hx, hl_append, if_pos hs]
        show _ ++ [(⟨e.Time, e.Tx.Kind, (lineOf s a b e).In, (lineOf s a b e).Out⟩ : history_Line)] = _
        rw [e1]
      · have hs' : seen (lineOf s a b e) = false := by simpa using hs
        unfold seen at hs'
        rw [Bool.or_eq_false_iff] at hs'
        have hy : (if decide ((lineOf s a b e).In ≠ W0) = true then true else decide ((lineOf s a b e).Out ≠ W0)) = false := by
          rw [if_neg (by rw [hs'.1]; decide), hs'.2]
        rw [hy]
        dsimp only
        rw [if_neg (by decide)]
        refine ⟨_, rfl, l.length - (n + 1), by omega, n + 1, rfl, by omega, rfl, ?_⟩
        rw [take_succ' hx, hl_append, if_neg hs]
    · rw [if_neg (by rw [decide_eq_true_iff]; omega)]
      refine ⟨_, rfl, ?_⟩
      show hl s a b (l.take n) = w
      rw [hw', List.take_of_length_le (by omega)]
  · intro o hq
    cases o with
    | rt r => exact hq.elim
    | dn st =>
      have hq' : st.2 = w := hq
      show ∃ r, Option.bind (history_Of l sd a b) _ = some r ∧ r = true
      rw [hw, Option.bind_some, hq', if_neg (by simp)]
      have hwl : w.length ≤ 1048576 := by rw [hw']; have := hl_len s a b l; omega
      refine loopW_bind (fun k i => ∃ n : Nat, i = n ∧ n ≤ w.length ∧ k = w.length - n) (fun o => match o with | .dn st => True | .rt r => False) w.length ⟨0, rfl, by omega, by omega⟩ ?_ ?_
      · rintro k i ⟨n, rfl, hn, rfl⟩
        by_cases hlt : n < w.length
        · rw [if_pos (decide_eq_true (by omega))]
          have hx := List.getElem?_eq_getElem hlt
          rw [at_nat, hx, Option.bind_some, Option.bind_some, if_neg (by simp), wrap64 (by omega) (by omega)]
          exact ⟨_, rfl, w.length - (n + 1), by omega, n + 1, by omega, by omega, rfl⟩
        · rw [if_neg (by rw [decide_eq_true_iff]; omega)]
          exact ⟨_, rfl, trivial⟩
      · intro o hq
        cases o with
        | dn st => exact ⟨true, rfl, rfl⟩
        | rt r => exact hq.elim
end Go.Sl
