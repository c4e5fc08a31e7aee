/- The plain law of narrowslaw39: what is past, what is next, what ends soon. -/
import Derived.Test.YteijfoldbinghaaSlDl
import Derived.Test.YteijfoldbinghaaSlPlain
set_option linter.unusedVariables false
set_option linter.unusedSimpArgs false
namespace Go.Sl
abbrev Due0 : deadline_Due := ⟨⟨#[]⟩, 0, 0⟩
def kp (d : deadline_Due) : Bool := decide (d.Left ≤ 0)
theorem past1 (d : deadline_Due) : deadline_Past_1 d = !(kp d) := by unfold deadline_Past_1 deadline_over kp; rfl
theorem wr1 {i : Nat} (h : i < 1099511627776) : IntKind.i64.wrap ((i : Int) + 1) = ((i + 1 : Nat) : Int) := by
  rw [wrap64 (by omega) (by omega)]; rfl
theorem Ix_spec (l : List deadline_Due) : (slices_IndexFunc_i159_f111 l = some (-1) ∧ ∀ x ∈ l, kp x = true) ∨ ∃ (i : Nat) (x : deadline_Due), slices_IndexFunc_i159_f111 l = some (i : Int) ∧ l[i]? = some x ∧ kp x = false ∧ ∀ k y, k < i → l[k]? = some y → kp y = true := by
  have key : ∃ r, slices_IndexFunc_i159_f111 l = some r ∧ ((r = -1 ∧ ∀ x ∈ l, kp x = true) ∨ ∃ (i : Nat) (x : deadline_Due), r = (i : Int) ∧ l[i]? = some x ∧ kp x = false ∧ ∀ k y, k < i → l[k]? = some y → kp y = true) := by
    unfold slices_IndexFunc_i159_f111
    refine loopR_bind (fun i s => ∀ k y, k < i → l[k]? = some y → kp y = true) (fun o => match o with | .dn _ => ∀ x ∈ l, kp x = true | .rt r => ∃ (i : Nat) (x : deadline_Due), r = (i : Int) ∧ l[i]? = some x ∧ kp x = false ∧ ∀ k y, k < i → l[k]? = some y → kp y = true) (fun k y h => by omega) ?_ ?_ ?_
    · intro i x s hx hs
      rw [past1]
      cases h : kp x with
      | false => exact ⟨_, rfl, i, x, rfl, hx, h, hs⟩
      | true =>
        refine ⟨_, rfl, fun k y hk hy => ?_⟩
        by_cases hki : k = i
        · subst hki; rw [hx] at hy; cases hy; exact h
        · exact hs k y (by omega) hy
    · intro s h x hx
      obtain ⟨k, hk⟩ := List.mem_iff_getElem?.1 hx
      exact h k x (List.getElem?_eq_some_iff.1 hk).1 hk
    · rintro (s | r) hq
      · exact ⟨_, rfl, .inl ⟨rfl, hq⟩⟩
      · exact ⟨_, rfl, .inr hq⟩
  obtain ⟨r, hr, h⟩ := key
  rcases h with ⟨rfl, h⟩ | ⟨i, x, rfl, h⟩
  · exact .inl ⟨hr, h⟩
  · exact .inr ⟨i, x, hr, h⟩
theorem filter_step {l : List deadline_Due} {j : Nat} {x : deadline_Due} (h : l[j]? = some x) : (l.take (j + 1)).filter kp = (l.take j).filter kp ++ (if kp x = true then [x] else []) := by
  rw [List.take_add_one, h, List.filter_append]
  congr 1
  cases hk : kp x <;> simp [hk]
theorem Del_spec (l : List deadline_Due) (hl : l.length ≤ 1048576) : slices_DeleteFunc_i109_o_f111 l = some (l.filter kp) := by
  unfold slices_DeleteFunc_i109_o_f111
  rcases Ix_spec l with ⟨h, hall⟩ | ⟨i, x, h, hx, hkx, hbefore⟩
  · rw [h, Option.bind_some, if_pos (by decide), List.filter_eq_self.2 hall]
  · rw [h, Option.bind_some, if_neg (by rw [decide_eq_true_iff]; omega), wr1 (by have := (List.getElem?_eq_some_iff.1 hx).1; omega)]
    have hin := (List.getElem?_eq_some_iff.1 hx).1
    have conv : ∀ (X : Option (List deadline_Due)), (∃ v, X = some v ∧ v = l.filter kp) → X = some (l.filter kp) := fun X ⟨v, h1, h2⟩ => by rw [h1, h2]
    refine conv _ ?_
    refine loopW_bind (fun k s => ∃ j m : Nat, s.1 = j ∧ s.2.1 = m ∧ m < j ∧ j ≤ l.length ∧ k = l.length - j ∧ s.2.2.length = l.length ∧ s.2.2.take m = (l.take j).filter kp ∧ s.2.2.drop j = l.drop j)
      (fun o => match o with | .dn s => ∃ m : Nat, s.2.1 = m ∧ m ≤ l.length ∧ s.2.2.length = l.length ∧ s.2.2.take m = l.filter kp | .rt r => False) (l.length - (i + 1)) ⟨i + 1, i, rfl, rfl, by omega, by omega, rfl, rfl, ?_, rfl⟩ ?_ ?_
    · dsimp only
      rw [filter_step hx, hkx]
      have : (l.take i).filter kp = l.take i := List.filter_eq_self.2 fun y hy => by
        obtain ⟨k, hk⟩ := List.mem_iff_getElem?.1 hy
        have hki := (List.getElem?_eq_some_iff.1 hk).1
        rw [List.length_take] at hki
        rw [List.getElem?_take_of_lt (by omega)] at hk
        exact hbefore k y (by omega) hk
      rw [this]; simp
    · rintro k ⟨j0, m0, s⟩ ⟨j, m, rfl, rfl, hmj, hj, rfl, hsl, ht, hd⟩
      dsimp only at hsl ht hd ⊢
      rw [hsl]
      by_cases hlt : j < l.length
      · rw [if_pos (decide_eq_true (by omega))]
        have hy := List.getElem?_eq_getElem hlt
        generalize l[j] = y at hy
        have hsy : s[j]? = some y := by
          have h1 : (s.drop j)[0]? = (l.drop j)[0]? := by rw [hd]
          simpa [hy] using h1
        have hdd : s.drop (j + 1) = l.drop (j + 1) := by
          have : (s.drop j).drop 1 = (l.drop j).drop 1 := by rw [hd]
          simpa [List.drop_drop] using this
        rw [at_nat, hsy, Option.bind_some, past1, wr1 (by omega), Bool.not_not]
        cases hk : kp y with
        | true =>
          obtain ⟨z, hz⟩ : ∃ z, s[m]? = some z := ⟨_, List.getElem?_eq_getElem (by omega)⟩
          rw [if_pos rfl, at_nat, hz, Option.bind_some, Option.bind_some, wr1 (by omega), Int.toNat_natCast]
          refine ⟨_, rfl, l.length - (j + 1), by omega, j + 1, m + 1, rfl, rfl, by omega, by omega, rfl, by simpa using hsl, ?_, ?_⟩
          · dsimp only
            rw [filter_step hy, hk, if_pos rfl, ← ht, List.take_add_one]
            have h1 : (s.set m y)[m]? = some y := by rw [List.getElem?_set_self (by omega)]
            rw [h1, List.take_set_of_le (Nat.le_refl _)]; rfl
          · dsimp only
            rw [List.drop_set_of_lt (by omega)]; exact hdd
        | false =>
          rw [if_neg (by decide), Option.bind_some, wr1 (i := j) (by omega)]
          refine ⟨_, rfl, l.length - (j + 1), by omega, j + 1, m, rfl, rfl, by omega, by omega, rfl, hsl, ?_, hdd⟩
          dsimp only
          rw [filter_step hy, hk, ht]; simp
      · rw [if_neg (by rw [decide_eq_true_iff]; omega)]
        obtain rfl : j = l.length := by omega
        rw [List.take_length] at ht
        exact ⟨_, rfl, m, rfl, by omega, hsl, ht⟩
    · rintro (s | r) hq
      · obtain ⟨m, h1, h2, h3, h4⟩ := hq
        obtain ⟨a, b, c⟩ := s
        dsimp only at h1 h3 h4
        subst h1
        rw [Lo.on]
        dsimp only
        rw [grd_pos (by omega), grd_pos (by simp; omega)]
        refine ⟨_, rfl, ?_⟩
        rw [Int.toNat_natCast, List.take_append_of_le_length (by simp; omega), List.take_take, Nat.min_self, h4]
      · exact hq.elim
theorem Past_spec (l : List deadline_Due) (hl : l.length ≤ 1048576) : deadline_Past l = some (l.filter kp) := by
  unfold deadline_Past slices_Clone_i110
  rw [grd_pos (by simp; omega), Option.bind_some, List.nil_append, Del_spec l hl]; rfl
/-- The first that is not past. -/
def nx (l : List deadline_Due) : Option deadline_Due := l.find? fun d => !(kp d)
theorem nx_step {l : List deadline_Due} {j : Nat} {x : deadline_Due} (h : l[j]? = some x) : nx (l.take (j + 1)) = (nx (l.take j)).or (if kp x = true then none else some x) := by
  unfold nx
  rw [List.take_add_one, h, List.find?_append]
  congr 1
  cases hk : kp x <;> simp [hk]
theorem Next_spec (l : List deadline_Due) : deadline_Next l = some ((nx l).getD Due0, (nx l).isSome) := by
  have key : ∃ r, deadline_Next l = some r ∧ r = ((nx l).getD Due0, (nx l).isSome) := by
    unfold deadline_Next
    refine loopR_bind (fun i s => nx (l.take i) = none) (fun o => match o with | .dn _ => nx l = none | .rt r => r = ((nx l).getD Due0, (nx l).isSome)) (by simp [nx]) ?_ (fun s h => by rw [List.take_length] at h; exact h) ?_
    · intro i x s hx hs
      have hst := nx_step hx
      rw [hs, Option.none_or] at hst
      have ho : deadline_over x = kp x := by unfold deadline_over kp; rfl
      rw [ho]
      cases hk : kp x with
      | true => rw [hk] at hst; exact ⟨_, rfl, by simpa using hst⟩
      | false =>
        rw [hk] at hst
        refine ⟨_, rfl, ?_⟩
        have h2 : nx l = some x := by
          have e : l = l.take (i + 1) ++ l.drop (i + 1) := (List.take_append_drop _ _).symm
          unfold nx at hst ⊢
          rw [e, List.find?_append, hst]; simp
        rw [h2]; rfl
    · rintro (s | r) hq
      · have hq' : nx l = none := hq
        rw [hq']; exact ⟨_, rfl, rfl⟩
      · exact ⟨_, rfl, hq⟩
  obtain ⟨r, hr, rfl⟩ := key
  exact hr
/-- How many end soon. -/
def ct (t : Int) (l : List deadline_Due) : Nat := (l.filter fun d => !(kp d) && decide (d.Left ≤ t)).length
theorem ct_step {t : Int} {l : List deadline_Due} {j : Nat} {x : deadline_Due} (h : l[j]? = some x) : ct t (l.take (j + 1)) = ct t (l.take j) + if (!(kp x) && decide (x.Left ≤ t)) = true then 1 else 0 := by
  unfold ct
  rw [List.take_add_one, h, List.filter_append, List.length_append]
  congr 1
  cases hk : (!(kp x) && decide (x.Left ≤ t)) <;> simp [hk]
theorem ct_le (t : Int) (l : List deadline_Due) : ct t l ≤ l.length := List.length_filter_le _ _
theorem Within_spec (l : List deadline_Due) (t : Int) (hl : l.length ≤ 1048576) : deadline_Within l t = some (ct t l : Int) := by
  have key : ∃ r, deadline_Within l t = some r ∧ r = (ct t l : Int) := by
    unfold deadline_Within
    refine loopR_bind (fun i s => s = (ct t (l.take i) : Int)) (fun o => match o with | .dn s => s = (ct t l : Int) | .rt r => False) (by simp [ct]) ?_ (fun s h => by rw [List.take_length] at h; exact h) ?_
    · rintro i x s hx rfl
      have ho : deadline_over x = kp x := by unfold deadline_over kp; rfl
      have hin := (List.getElem?_eq_some_iff.1 hx).1
      have hle := ct_le t (l.take i)
      rw [List.length_take] at hle
      have hst := ct_step (t := t) hx
      unfold thn
      rw [ho, wr1 (by omega)]
      refine ⟨_, rfl, ?_⟩
      dsimp only
      rw [hst]
      cases hk : kp x <;> simp
      split <;> simp_all
    · rintro (s | r) hq
      · exact ⟨_, rfl, hq⟩
      · exact hq.elim
  obtain ⟨r, hr, rfl⟩ := key
  exact hr
theorem alive39 : narrowslaw39_alive = some true := by
  unfold narrowslaw39_alive
  have h1 : scan_Deals [] = some [] := by unfold scan_Deals; rfl
  have hi : ∀ b : Int, b = 0 → slices_insertionSortCmpFunc_i208_f158 [] 0 b = some () := fun b hb => by
    subst hb
    unfold slices_insertionSortCmpFunc_i208_f158
    rw [loopW_step]; rfl
  have hs : slices_SortStableFunc_i157_f158 [] = some () := by
    unfold slices_SortStableFunc_i157_f158 slices_stableCmpFunc_i186_f158
    have h0 : (([] : List deadline_Due).length : Int) = 0 := rfl
    rw [h0, loopW_step]
    dsimp only
    rw [if_neg (by decide), Option.bind_some, Option.bind_some, Lo.on, hi 0 rfl, Option.bind_some, loopW_step]
    rfl
  have h2 : ∀ s, deadline_Of s [] = some [] := fun s => by
    unfold deadline_Of
    rw [h1, Option.bind_some, if_neg (by simp), hs]; rfl
  rw [Next_spec, Option.bind_some, h2, Within_spec _ _ (by simp)]
  rfl
set_option maxHeartbeats 1000000 in
theorem DeadlineParts_true (l : List deadline_Due) (t : Int) (hl : l.length ≤ 1048576) : ∃ b, narrowslaw39_DeadlineParts l t = some b ∧ b = true := by
  unfold narrowslaw39_DeadlineParts
  rw [alive39, Option.bind_some, if_neg (by decide)]
  refine loopW_bind (fun k s => ∃ i : Nat, s.1 = i ∧ i ≤ l.length ∧ k = l.length - i ∧ s.2.1 = (ct t (l.take i) : Int) ∧ s.2.2.1 = (nx (l.take i)).isSome ∧ s.2.2.2.1 = (nx (l.take i)).getD Due0 ∧ s.2.2.2.2 = (l.take i).filter kp)
    (fun o => match o with | .dn s => s.2.1 = (ct t l : Int) ∧ s.2.2.1 = (nx l).isSome ∧ s.2.2.2.1 = (nx l).getD Due0 ∧ s.2.2.2.2 = l.filter kp | .rt r => False) l.length ⟨0, rfl, by omega, by omega, by simp [ct], by simp [nx], by simp [nx], by simp⟩ ?_ ?_
  · rintro k ⟨i0, n, ok, next, past⟩ ⟨i, rfl, hi, rfl, hn, hok, hnext, hpast⟩
    dsimp only at hn hok hnext hpast ⊢
    by_cases hlt : i < l.length
    · rw [if_pos (decide_eq_true (by omega))]
      have hx := List.getElem?_eq_getElem hlt
      generalize l[i] = x at hx
      have hct := ct_step (t := t) hx; have hnx := nx_step hx; have hf := filter_step hx
      have hle := ct_le t (l.take i)
      rw [List.length_take] at hle
      have hpl : past.length ≤ i := by
        rw [hpast]
        have := List.length_filter_le kp (l.take i)
        rw [List.length_take] at this; omega
      simp only [at_nat, hx, Option.bind_some]
      rw [wr1 (by omega)]
      have hkx : kp x = decide (x.Left ≤ 0) := rfl
      by_cases h0 : x.Left ≤ 0
      · have hk : kp x = true := by rw [hkx]; exact decide_eq_true h0
        rw [if_pos (decide_eq_true h0), grd_pos (by simp; omega), Option.bind_some]
        rw [hk] at hct hnx hf
        refine ⟨_, rfl, l.length - (i + 1), by omega, i + 1, rfl, by omega, rfl, ?_, ?_, ?_, ?_⟩
        · dsimp only; rw [hct, hn]; simp
        · dsimp only; rw [hnx, hok]; simp
        · dsimp only; rw [hnx, hnext]; simp
        · dsimp only; rw [hf, hpast]; simp
      · have hk : kp x = false := by rw [hkx]; exact decide_eq_false h0
        rw [if_neg (by simpa using h0)]
        rw [hk] at hct hnx hf
        have hy : (if (!ok) = true then some (true, x) else some (ok, next)) = some ((nx (l.take (i + 1))).isSome, (nx (l.take (i + 1))).getD Due0) := by
          rw [hnx, hok, hnext]
          cases hz : nx (l.take i) <;> simp
        rw [hy, Option.bind_some]
        by_cases h1 : x.Left ≤ t
        · rw [if_pos (decide_eq_true h1), Option.bind_some]
          refine ⟨_, rfl, l.length - (i + 1), by omega, i + 1, rfl, by omega, rfl, ?_, rfl, rfl, ?_⟩
          · dsimp only; rw [hct, hn, wr1 (by omega)]; simp [h1]
          · dsimp only; rw [hf, hpast]; simp
        · rw [if_neg (by simpa using h1), Option.bind_some]
          refine ⟨_, rfl, l.length - (i + 1), by omega, i + 1, rfl, by omega, rfl, ?_, rfl, rfl, ?_⟩
          · dsimp only; rw [hct, hn]; simp [h1]
          · dsimp only; rw [hf, hpast]; simp
    · rw [if_neg (by rw [decide_eq_true_iff]; omega)]
      obtain rfl : i = l.length := by omega
      rw [List.take_length] at hn hok hnext hpast
      exact ⟨_, rfl, hn, hok, hnext, hpast⟩
  · rintro (s | r) hq
    · obtain ⟨i0, n, ok, next, past⟩ := s
      obtain ⟨rfl, rfl, rfl, rfl⟩ := hq
      rw [Lo.on, Next_spec, Option.bind_some, Past_spec l hl, Option.bind_some]
      dsimp only
      rw [if_neg (by simp), if_neg (by simp), Within_spec l t hl, Option.bind_some, if_neg (by simp), Option.bind_some, if_neg (by simp)]
      have hfl := List.length_filter_le kp l
      refine loopW_bind (fun k s => ∃ i : Nat, s = i ∧ i ≤ (l.filter kp).length ∧ k = (l.filter kp).length - i) (fun o => match o with | .dn s => True | .rt r => False) _ ⟨0, rfl, by omega, rfl⟩ ?_ ?_
      · rintro k s ⟨i, rfl, hi, rfl⟩
        by_cases hlt : i < (l.filter kp).length
        · rw [if_pos (decide_eq_true (by omega))]
          have hx := List.getElem?_eq_getElem hlt
          rw [at_nat, hx, Option.bind_some, Option.bind_some, if_neg (by simp), wr1 (by omega)]
          exact ⟨_, rfl, (l.filter kp).length - (i + 1), by omega, i + 1, rfl, by omega, rfl⟩
        · rw [if_neg (by rw [decide_eq_true_iff]; omega)]
          exact ⟨_, rfl, trivial⟩
      · rintro (s | r) hq
        · exact ⟨_, rfl, rfl⟩
        · exact hq.elim
    · exact hq.elim
end Go.Sl
