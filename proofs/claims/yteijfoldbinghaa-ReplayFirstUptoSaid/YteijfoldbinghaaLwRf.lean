/- The plain law of replay.First and replay.Same. -/
import Derived.Test.YteijfoldbinghaaSlRf2
import Derived.Test.YteijfoldbinghaaSlPlain
set_option linter.unusedVariables false
set_option linter.unusedSimpArgs false
namespace Go.Sl
theorem get_all_eq {α : Type} {a b : List α} (h : ∀ j : Nat, a[j]? = b[j]?) : a = b := List.ext_getElem? h
theorem sEq (a b : List escrow_Lock) (ha : a.length ≤ 1048576) (hb : b.length ≤ 1048576) : slices_Equal_i118 a b = some (decide (a = b)) := by
  suffices h : ∃ r, slices_Equal_i118 a b = some r ∧ r = decide (a = b) by obtain ⟨r, hr, rfl⟩ := h; exact hr
  unfold slices_Equal_i118
  by_cases hl : a.length = b.length
  · rw [if_neg (by simp [hl])]
    refine loopR_bind (fun i _ => ∀ j, j < i → a[j]? = b[j]?) (fun o => match o with | .dn _ => a = b | .rt r => r = false ∧ a ≠ b) (by intro j h; omega) ?_ ?_ ?_
    · intro i x _ hx hs
      have hlt := (List.getElem?_eq_some_iff.1 hx).1
      have hy := List.getElem?_eq_getElem (show i < b.length by omega)
      generalize b[i] = y at hy
      dsimp only
      rw [at_nat, hy, Option.bind_some]
      by_cases he : x = y
      · rw [if_neg (by simp [he])]
        refine ⟨_, rfl, fun j hj => ?_⟩
        by_cases h : j = i
        · subst h; rw [hx, hy, he]
        · exact hs j (by omega)
      · rw [if_pos (by simp [he])]
        refine ⟨_, rfl, rfl, fun h => he ?_⟩
        subst h; rw [hx] at hy; exact Option.some.inj hy
    · intro _ hs
      refine get_all_eq fun j => ?_
      by_cases h : j < a.length
      · exact hs j h
      · rw [List.getElem?_eq_none (by omega), List.getElem?_eq_none (by omega)]
    · rintro (_ | r) h
      · exact ⟨_, rfl, (decide_eq_true h).symm⟩
      · exact ⟨_, rfl, by rw [h.1]; exact (decide_eq_false h.2).symm⟩
  · rw [if_pos (by simp; omega)]
    exact ⟨_, rfl, (decide_eq_false fun h => hl (by rw [h])).symm⟩
theorem Same_spec (s t : escrow_State) (hs : s.Locks.length ≤ 1048576) (ht : t.Locks.length ≤ 1048576) : replay_Same s t = some (decide (s = t)) := by
  unfold replay_Same thn
  rw [sEq _ _ hs ht]
  obtain ⟨a1, a2, a3, a4, a5, a6, a7, a8⟩ := s
  obtain ⟨b1, b2, b3, b4, b5, b6, b7, b8⟩ := t
  simp only [escrow_State.mk.injEq]
  by_cases h1 : a1 = b1 <;> by_cases h2 : a2 = b2 <;> by_cases h3 : a3 = b3 <;> by_cases h4 : a4 = b4 <;> by_cases h5 : a5 = b5 <;> by_cases h6 : a6 = b6 <;> by_cases h7 : a7 = b7 <;> simp [h1, h2, h3, h4, h5, h6, h7]
theorem lEq (a b : List escrow_Lock) (ha : a.length ≤ 1048576) (hl : a.length = b.length) :
    (Option.bind (loopW (fun (s14 : Int) => if (decide (s14 < ((a.length : Int)))) = true then (Option.bind (at_ a s14) fun (x27 : escrow_Lock) => Option.bind (at_ b s14) fun (x34 : escrow_Lock) => if (decide ((x27 : escrow_Lock) ≠ (x34 : escrow_Lock))) = true then (Option.map Ct.rt (some false)) else (some (.nx (IntKind.i64.wrap (s14 + 1))))) else (some (.br s14))) 0) fun o16 => Lo.on o16 fun (s14 : Int) => some true) = some (decide (a = b)) := by
  suffices h : ∃ r, (Option.bind (loopW (fun (s14 : Int) => if (decide (s14 < ((a.length : Int)))) = true then (Option.bind (at_ a s14) fun (x27 : escrow_Lock) => Option.bind (at_ b s14) fun (x34 : escrow_Lock) => if (decide ((x27 : escrow_Lock) ≠ (x34 : escrow_Lock))) = true then (Option.map Ct.rt (some false)) else (some (.nx (IntKind.i64.wrap (s14 + 1))))) else (some (.br s14))) 0) fun o16 => Lo.on o16 fun (s14 : Int) => some true) = some r ∧ r = decide (a = b) by obtain ⟨r, hr, rfl⟩ := h; exact hr
  refine loopW_bind (fun k s => ∃ n : Nat, s = n ∧ n ≤ a.length ∧ k = a.length - n ∧ ∀ j, j < n → a[j]? = b[j]?) (fun o => match o with | .dn _ => a = b | .rt r => r = false ∧ a ≠ b) a.length ⟨0, rfl, by omega, by omega, by intro j h; omega⟩ ?_ ?_
  · rintro k s ⟨n, rfl, hn, rfl, hs⟩
    by_cases hlt : n < a.length
    · rw [if_pos (decide_eq_true (by omega))]
      have hx := List.getElem?_eq_getElem hlt
      have hy := List.getElem?_eq_getElem (show n < b.length by omega)
      generalize a[n] = x at hx
      generalize b[n] = y at hy
      rw [at_nat, at_nat, hx, hy, Option.bind_some, Option.bind_some, wrap64 (by omega) (by omega)]
      by_cases he : x = y
      · rw [if_neg (by simp [he])]
        refine ⟨_, rfl, a.length - (n + 1), by omega, n + 1, by omega, by omega, rfl, fun j hj => ?_⟩
        by_cases h : j = n
        · subst h; rw [hx, hy, he]
        · exact hs j (by omega)
      · rw [if_pos (by simp [he])]
        refine ⟨_, rfl, rfl, fun h => he ?_⟩
        subst h; rw [hx] at hy; exact Option.some.inj hy
    · rw [if_neg (by rw [decide_eq_true_iff]; omega)]
      refine ⟨_, rfl, ?_⟩
      refine get_all_eq fun j => ?_
      by_cases h : j < n
      · exact hs j h
      · rw [List.getElem?_eq_none (by omega), List.getElem?_eq_none (by omega)]
  · rintro (_ | r) h
    · exact ⟨_, rfl, (decide_eq_true h).symm⟩
    · exact ⟨_, rfl, by rw [h.1]; exact (decide_eq_false h.2).symm⟩
theorem same_spec (s t : escrow_State) (hs : s.Locks.length ≤ 1048576) : narrowslaw37_same s t = some (decide (s = t)) := by
  unfold narrowslaw37_same thn
  obtain ⟨a1, a2, a3, a4, a5, a6, a7, a8⟩ := s
  obtain ⟨b1, b2, b3, b4, b5, b6, b7, b8⟩ := t
  simp only at hs
  simp only [escrow_State.mk.injEq]
  by_cases hl : a8.length = b8.length
  · rw [lEq a8 b8 hs hl]
    by_cases h1 : a1 = b1 <;> by_cases h2 : a2 = b2 <;> by_cases h3 : a3 = b3 <;> by_cases h4 : a4 = b4 <;> by_cases h5 : a5 = b5 <;> by_cases h6 : a6 = b6 <;> by_cases h7 : a7 = b7 <;> simp [h1, h2, h3, h4, h5, h6, h7, hl]
  · have h8 : a8 ≠ b8 := fun h => hl (by rw [h])
    have hl' : ¬ ((a8.length : Int) = (b8.length : Int)) := by omega
    by_cases h1 : a1 = b1 <;> by_cases h2 : a2 = b2 <;> by_cases h3 : a3 = b3 <;> by_cases h4 : a4 = b4 <;> by_cases h5 : a5 = b5 <;> by_cases h6 : a6 = b6 <;> by_cases h7 : a7 = b7 <;> simp [h1, h2, h3, h4, h5, h6, h7, hl', h8]
/-- The first place where two lists are unlike. -/
def Fst (a b : List api_Event) (r : Int) : Prop := (r = -1 ∧ ∀ j : Nat, a[j]? = b[j]?) ∨ ∃ i : Nat, r = i ∧ a[i]? ≠ b[i]? ∧ ∀ j : Nat, j < i → a[j]? = b[j]?
theorem Fst.uniq {a b : List api_Event} {r s : Int} (h : Fst a b r) (k : Fst a b s) : r = s := by
  rcases h with ⟨rfl, h⟩ | ⟨i, rfl, h1, h2⟩
  · rcases k with ⟨rfl, k⟩ | ⟨j, rfl, k1, k2⟩
    · rfl
    · exact absurd (h j) k1
  · rcases k with ⟨rfl, k⟩ | ⟨j, rfl, k1, k2⟩
    · exact absurd (k i) h1
    · by_cases h : i < j
      · exact absurd (k2 i h) h1
      · by_cases h' : j < i
        · exact absurd (h2 j h') k1
        · omega
theorem flag (a b : List api_Event) (n : Nat) (hn : n < a.length ∨ n < b.length) : (if (decide ((n : Int) ≥ ((a.length : Int)))) = true then (some true) else (if (decide ((n : Int) ≥ ((b.length : Int)))) = true then (some true) else (Option.bind (at_ a n) fun (x19 : api_Event) => Option.bind (at_ b n) fun (x26 : api_Event) => some (decide ((x19 : api_Event) ≠ (x26 : api_Event)))))) = some (decide (a[n]? ≠ b[n]?)) := by
  by_cases h1 : n < a.length
  · rw [if_neg (by rw [decide_eq_true_iff]; omega)]
    by_cases h2 : n < b.length
    · rw [if_neg (by rw [decide_eq_true_iff]; omega), at_nat, at_nat, List.getElem?_eq_getElem h1, List.getElem?_eq_getElem h2]
      simp
    · rw [if_pos (by rw [decide_eq_true_iff]; omega), List.getElem?_eq_getElem h1, List.getElem?_eq_none (by omega)]
      simp
  · rw [if_pos (by rw [decide_eq_true_iff]; omega), List.getElem?_eq_none (by omega), List.getElem?_eq_getElem (show n < b.length by omega)]
    simp
theorem First_spec (a b : List api_Event) (ha : a.length ≤ 1048576) (hb : b.length ≤ 1048576) : ∃ r, replay_First a b = some r ∧ Fst a b r := by
  unfold replay_First
  have hm : ∀ n : Nat, (n : Int) < (if (b.length : Int) > (a.length : Int) then (b.length : Int) else (a.length : Int)) ↔ (n < a.length ∨ n < b.length) := fun n => by split <;> omega
  refine loopW_bind (fun k s => ∃ n : Nat, s = n ∧ n ≤ 1048576 ∧ k = 1048576 - n ∧ ∀ j, j < n → a[j]? = b[j]?) (fun o => match o with | .dn _ => ∀ j : Nat, a[j]? = b[j]? | .rt r => Fst a b r) 1048576 ⟨0, rfl, by omega, by omega, by intro j h; omega⟩ ?_ ?_
  · rintro k s ⟨n, rfl, hn, rfl, hs⟩
    by_cases hlt : n < a.length ∨ n < b.length
    · rw [if_pos (decide_eq_true ((hm n).2 hlt)), flag a b n hlt, Option.bind_some, wrap64 (by omega) (by omega)]
      by_cases he : a[n]? = b[n]?
      · rw [if_neg (by simp [he])]
        refine ⟨_, rfl, 1048576 - (n + 1), by omega, n + 1, by omega, by omega, rfl, fun j hj => ?_⟩
        by_cases h : j = n
        · subst h; exact he
        · exact hs j (by omega)
      · rw [if_pos (decide_eq_true he)]
        exact ⟨_, rfl, .inr ⟨n, rfl, he, hs⟩⟩
    · rw [if_neg (by rw [decide_eq_true_iff, hm]; exact hlt)]
      refine ⟨_, rfl, fun j => ?_⟩
      by_cases h : j < n
      · exact hs j h
      · rw [List.getElem?_eq_none (by omega), List.getElem?_eq_none (by omega)]
  · rintro (_ | r) h
    · exact ⟨_, rfl, .inl ⟨rfl, h⟩⟩
    · exact ⟨_, rfl, h⟩
theorem alive37 : narrowslaw37_alive = some true := by
  unfold narrowslaw37_alive
  have h1 : replay_State [] 1 7 = some (escrow_Genesis 1 7, 0) := by unfold replay_State; rfl
  have h2 : (escrow_Genesis 1 7).Side = 1 ∧ (escrow_Genesis 1 7).Time = 7 ∧ (escrow_Genesis 1 7).Locks = [] := by unfold escrow_Genesis; decide
  obtain ⟨r, hr, hf⟩ := First_spec [] [] (by simp) (by simp)
  have : r = -1 := hf.uniq (.inl ⟨rfl, fun _ => rfl⟩)
  subst this
  have hl : (escrow_Genesis 1 7).Locks.length ≤ 1048576 := by rw [h2.2.2]; simp
  rw [h1, hr]
  simp only [Option.bind_some, h2.1, h2.2.1, Same_spec _ _ hl hl]
  simp
theorem ReplayFirst_true (a b : List api_Event) (s t : escrow_State) (ha : a.length ≤ 1048576) (hb : b.length ≤ 1048576) (hs : s.Locks.length ≤ 1048576) (ht : t.Locks.length ≤ 1048576) :
    ∃ r, narrowslaw37_ReplayFirst a b s t = some r ∧ r = true := by
  unfold narrowslaw37_ReplayFirst
  refine loopW_bind (fun k st => (∃ n : Nat, st.1 = n ∧ n ≤ 1048576 ∧ k = 1048577 - n ∧ st.2 = -1 ∧ ∀ j, j < n → a[j]? = b[j]?) ∨ (k = 0 ∧ 0 ≤ st.2 ∧ Fst a b st.2)) (fun o => match o with | .dn st => Fst a b st.2 | .rt r => False) 1048577 (.inl ⟨0, rfl, by omega, by omega, rfl, by intro j h; omega⟩) ?_ ?_
  · rintro k ⟨i, m⟩ (⟨n, rfl, hn, rfl, hm, hs'⟩ | ⟨rfl, h0, hf⟩)
    · dsimp only at hm ⊢
      subst hm
      unfold thn
      by_cases hlt : n < a.length ∨ n < b.length
      · have hy : (if (decide ((n : Int) < ((a.length : Int)))) = true then (decide ((-1 : Int) < 0)) else (if (decide ((n : Int) < ((b.length : Int)))) = true then (decide ((-1 : Int) < 0)) else false)) = true := by
          by_cases h1 : n < a.length
          · rw [if_pos (by rw [decide_eq_true_iff]; omega)]; rfl
          · rw [if_neg (by rw [decide_eq_true_iff]; omega), if_pos (by rw [decide_eq_true_iff]; omega)]; rfl
        rw [hy]
        dsimp only
        rw [if_pos rfl, flag a b n hlt, Option.bind_some, wrap64 (by omega) (by omega)]
        by_cases he : a[n]? = b[n]?
        · rw [if_neg (by simp [he])]
          refine ⟨_, rfl, 1048577 - (n + 1), by omega, .inl ⟨n + 1, by simp, by omega, rfl, rfl, fun j hj => ?_⟩⟩
          by_cases h : j = n
          · subst h; exact he
          · exact hs' j (by omega)
        · rw [if_pos (decide_eq_true he)]
          exact ⟨_, rfl, 0, by omega, .inr ⟨rfl, by show (0 : Int) ≤ (n : Int); omega, .inr ⟨n, rfl, he, hs'⟩⟩⟩
      · have hy : (if (decide ((n : Int) < ((a.length : Int)))) = true then (decide ((-1 : Int) < 0)) else (if (decide ((n : Int) < ((b.length : Int)))) = true then (decide ((-1 : Int) < 0)) else false)) = false := by
          rw [if_neg (by rw [decide_eq_true_iff]; omega), if_neg (by rw [decide_eq_true_iff]; omega)]
        rw [hy]
        dsimp only
        rw [if_neg (by decide)]
        refine ⟨_, rfl, .inl ⟨rfl, fun j => ?_⟩⟩
        by_cases h : j < n
        · exact hs' j h
        · rw [List.getElem?_eq_none (by omega), List.getElem?_eq_none (by omega)]
    · dsimp only at h0 hf ⊢
      unfold thn
      have hm : decide (m < 0) = false := decide_eq_false (by omega)
      have hy : (if (decide (i < ((a.length : Int)))) = true then (decide (m < 0)) else (if (decide (i < ((b.length : Int)))) = true then (decide (m < 0)) else false)) = false := by
        rw [hm]; (repeat' split) <;> rfl
      rw [hy]
      dsimp only
      rw [if_neg (by decide)]
      exact ⟨_, rfl, hf⟩
  · rintro (⟨i, m⟩ | r) hq
    · have hf : Fst a b m := hq
      obtain ⟨r, hr, hr'⟩ := First_spec a b ha hb
      have := hr'.uniq hf
      subst this
      show ∃ r', Option.bind _ _ = some r' ∧ r' = true
      rw [hr]
      simp only [Option.bind_some, Same_spec _ _ hs ht, Same_spec _ _ hs hs, same_spec _ _ hs, alive37]
      simp
    · exact hq.elim
end Go.Sl
