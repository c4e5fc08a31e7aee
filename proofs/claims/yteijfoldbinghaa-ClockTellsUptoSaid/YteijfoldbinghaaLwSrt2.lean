/- What the library's pieces of a stable sort do to a list. -/
import Derived.Test.YteijfoldbinghaaSlCk
import Derived.Test.YteijfoldbinghaaLwSort
set_option linter.unusedVariables false
set_option linter.unusedSimpArgs false
namespace Go.Sl
section
variable {α : Type}
theorem set_swap (P M Q : List α) (u v : α) {i j : Nat} (hi : P.length = i) (hj : P.length + 1 + M.length = j) : ((P ++ u :: (M ++ v :: Q)).set i v).set j u = P ++ v :: (M ++ u :: Q) := by
  subst hi hj
  rw [List.set_append_right _ _ (by omega), Nat.sub_self, List.set_cons_zero, List.set_append_right _ _ (by omega)]
  have : P.length + 1 + M.length - P.length = M.length + 1 := by omega
  rw [this, List.set_cons_succ, List.set_append_right _ _ (by omega), Nat.sub_self, List.set_cons_zero]
theorem get_mid (P Q : List α) (u : α) {i : Nat} (hi : P.length = i) : (P ++ u :: Q)[i]? = some u := by
  subst hi; simp
theorem get_mid2 (P M Q : List α) (u v : α) {j : Nat} (hj : P.length + 1 + M.length = j) : (P ++ u :: (M ++ v :: Q))[j]? = some v := by
  subst hj
  rw [List.getElem?_append_right (by omega)]
  have : P.length + 1 + M.length - P.length = M.length + 1 := by omega
  rw [this, List.getElem?_cons_succ]; simp
theorem drop_c {l : List α} {n : Nat} {x : α} (h : l[n]? = some x) : l.drop n = x :: l.drop (n + 1) := by
  obtain ⟨hlt, rfl⟩ := List.getElem?_eq_some_iff.1 h
  exact List.drop_eq_getElem_cons hlt
theorem wrN {n : Int} (h0 : -1099511627776 ≤ n) (h : n ≤ 1099511627776) : IntKind.i64.wrap n = n := wrap64 (by omega) (by omega)
theorem bnd_conv {X : Option α} {w : α} (h : ∃ v, X = some v ∧ v = w) : X = some w := by
  obtain ⟨v, hv, rfl⟩ := h; exact hv
end
theorem swapRange_spec (P A M B Q : List clock_Stamp) {n : Nat} {a b : Int} (hA : A.length = n) (hB : B.length = n) (ha : a = P.length) (hb : b = ((P.length + n + M.length : Nat) : Int)) (hlen : P.length + n + M.length + n ≤ 4194304) :
    slices_swapRangeCmpFunc_i220_m_f78 (P ++ (A ++ (M ++ (B ++ Q)))) a b (n : Int) = some (P ++ (B ++ (M ++ (A ++ Q)))) := by
  subst ha hb
  unfold slices_swapRangeCmpFunc_i220_m_f78
  refine bnd_conv ?_
  refine loopW_bind (fun k s => ∃ i : Nat, s.1 = i ∧ i ≤ n ∧ k = n - i ∧ s.2 = P ++ ((B.take i ++ A.drop i) ++ (M ++ ((A.take i ++ B.drop i) ++ Q)))) (fun o => match o with | .dn s => s.2 = P ++ (B ++ (M ++ (A ++ Q))) | .rt r => False) n ⟨0, rfl, by omega, by omega, by simp⟩ ?_ ?_
  · rintro k ⟨i0, l⟩ ⟨i, rfl, hi, rfl, hl⟩
    dsimp only at hl ⊢
    by_cases hlt : i < n
    · rw [if_pos (decide_eq_true (by omega))]
      have hu := List.getElem?_eq_getElem (l := A) (i := i) (by omega)
      have hv := List.getElem?_eq_getElem (l := B) (i := i) (by omega)
      generalize A[i] = u at hu
      generalize B[i] = v at hv
      have eA := drop_c hu; have eB := drop_c hv
      have tA : A.take (i + 1) = A.take i ++ [u] := by rw [List.take_add_one, hu]; rfl
      have tB : B.take (i + 1) = B.take i ++ [v] := by rw [List.take_add_one, hv]; rfl
      have form : l = (P ++ B.take i) ++ u :: ((A.drop (i + 1) ++ M ++ A.take i) ++ v :: (B.drop (i + 1) ++ Q)) := by
        rw [hl, eA, eB]; simp
      have hp : (P ++ B.take i).length = P.length + i := by simp; omega
      have hm : (P ++ B.take i).length + 1 + (A.drop (i + 1) ++ M ++ A.take i).length = P.length + n + M.length + i := by simp; omega
      have g1 : l[P.length + i]? = some u := by rw [form]; exact get_mid _ _ _ hp
      have g2 : l[P.length + n + M.length + i]? = some v := by rw [form]; exact get_mid2 _ _ _ _ _ hm
      have w1 : IntKind.i64.wrap (((P.length + n + M.length : Nat) : Int) + (i : Int)) = ((P.length + n + M.length + i : Nat) : Int) := by rw [wrN (by omega) (by omega)]; omega
      have w2 : IntKind.i64.wrap ((P.length : Int) + (i : Int)) = ((P.length + i : Nat) : Int) := by rw [wrN (by omega) (by omega)]; omega
      have w3 : IntKind.i64.wrap ((i : Int) + 1) = ((i + 1 : Nat) : Int) := by rw [wrN (by omega) (by omega)]; omega
      rw [w1, w2, w3, at_nat, g2, Option.bind_some, at_nat, g1, Option.bind_some, Option.bind_some, Int.toNat_natCast, Int.toNat_natCast]
      have g3 : ∃ z, at_ (l.set (P.length + i) v) ((P.length + n + M.length + i : Nat) : Int) = some z := by
        rw [at_nat]
        have h := (List.getElem?_eq_some_iff.1 g2).1
        exact ⟨_, List.getElem?_eq_getElem (by simpa using h)⟩
      obtain ⟨z, hz⟩ := g3
      rw [hz, Option.bind_some]
      refine ⟨_, rfl, n - (i + 1), by omega, i + 1, rfl, by omega, rfl, ?_⟩
      dsimp only
      rw [form, set_swap _ _ _ _ _ hp hm, tA, tB]
      simp
    · rw [if_neg (by rw [decide_eq_true_iff]; omega)]
      obtain rfl : i = n := by omega
      refine ⟨_, rfl, ?_⟩
      dsimp only
      rw [hl, List.take_of_length_le (by omega), List.take_of_length_le (by omega), List.drop_of_length_le (by omega), List.drop_of_length_le (by omega)]
      simp
  · rintro (s | r) hq
    · exact ⟨_, rfl, hq⟩
    · exact hq.elim
theorem rotate_spec (P X Y Q : List clock_Stamp) {a m b : Int} (hX : X ≠ []) (hY : Y ≠ []) (ha : a = P.length) (hm : m = ((P.length + X.length : Nat) : Int)) (hb : b = ((P.length + X.length + Y.length : Nat) : Int)) (hlen : P.length + X.length + Y.length ≤ 4194304) :
    slices_rotateCmpFunc_i196_m_f78 (P ++ (X ++ (Y ++ Q))) a m b = some (P ++ (Y ++ (X ++ Q))) := by
  subst ha hm hb
  have hx := List.length_pos_iff.2 hX; have hy := List.length_pos_iff.2 hY
  unfold slices_rotateCmpFunc_i196_m_f78
  have w1 : IntKind.i64.wrap (((P.length + X.length + Y.length : Nat) : Int) - ((P.length + X.length : Nat) : Int)) = (Y.length : Int) := by rw [wrN (by omega) (by omega)]; omega
  have w2 : IntKind.i64.wrap (((P.length + X.length : Nat) : Int) - (P.length : Int)) = (X.length : Int) := by rw [wrN (by omega) (by omega)]; omega
  rw [w1, w2]
  refine bnd_conv ?_
  refine loopW_bind (fun k s => ∃ F1 X' Y' F2 : List clock_Stamp, s.1 = Y'.length ∧ s.2.1 = X'.length ∧ 0 < X'.length ∧ 0 < Y'.length ∧ k = X'.length + Y'.length ∧ s.2.2 = P ++ (F1 ++ (X' ++ (Y' ++ (F2 ++ Q)))) ∧ F1.length + X'.length = X.length ∧ Y'.length ≤ Y.length ∧ F1 ++ (Y' ++ (X' ++ F2)) = Y ++ X)
    (fun o => match o with | .dn s => ∃ F1 X' Y' F2 : List clock_Stamp, s.2.1 = X'.length ∧ Y'.length = X'.length ∧ s.2.2 = P ++ (F1 ++ (X' ++ (Y' ++ (F2 ++ Q)))) ∧ F1.length + X'.length = X.length ∧ Y'.length ≤ Y.length ∧ F1 ++ (Y' ++ (X' ++ F2)) = Y ++ X | .rt r => False)
    (X.length + Y.length) ⟨[], X, Y, [], rfl, rfl, hx, hy, rfl, by simp, by simp, Nat.le_refl _, by simp⟩ ?_ ?_
  · rintro k ⟨j0, i0, l⟩ ⟨F1, X', Y', F2, rfl, rfl, hx', hy', rfl, rfl, hF, hYl, hG⟩
    dsimp only
    by_cases hne : X'.length = Y'.length
    · rw [if_neg (by rw [decide_eq_true_iff]; omega)]
      exact ⟨_, rfl, F1, X', Y', F2, rfl, hne.symm, rfl, hF, hYl, hG⟩
    · rw [if_pos (decide_eq_true (by omega))]
      by_cases hgt : X'.length > Y'.length
      · rw [if_pos (decide_eq_true (by omega))]
        obtain ⟨Xa, Xb, rfl, l1⟩ : ∃ Xa Xb, X' = Xa ++ Xb ∧ Xa.length = Y'.length := ⟨X'.take Y'.length, X'.drop Y'.length, (List.take_append_drop _ _).symm, by simp; omega⟩
        rw [List.length_append] at hgt hne hF hx' ⊢
        have hs := swapRange_spec (P ++ F1) Xa Xb Y' (F2 ++ Q) (n := Y'.length) (a := IntKind.i64.wrap (((P.length + X.length : Nat) : Int) - ((Xa.length + Xb.length : Nat) : Int))) (b := ((P.length + X.length : Nat) : Int)) l1 rfl (by rw [wrN (by omega) (by omega)]; simp; omega) (by simp; omega) (by simp; omega)
        have hl : P ++ (F1 ++ ((Xa ++ Xb) ++ (Y' ++ (F2 ++ Q)))) = (P ++ F1) ++ (Xa ++ (Xb ++ (Y' ++ (F2 ++ Q)))) := by simp
        rw [hl, hs, Option.bind_some, wrN (n := ((Xa.length + Xb.length : Nat) : Int) - (Y'.length : Int)) (by omega) (by omega)]
        refine ⟨_, rfl, Xb.length + Xa.length, by omega, F1 ++ Y', Xb, Xa, F2, by dsimp only; omega, by dsimp only; omega, by omega, by omega, rfl, by simp, by simp; omega, by omega, ?_⟩
        rw [← hG]; simp
      · rw [if_neg (by rw [decide_eq_true_iff]; omega)]
        obtain ⟨Ya, Yb, rfl, l1⟩ : ∃ Ya Yb, Y' = Ya ++ Yb ∧ Yb.length = X'.length := ⟨Y'.take (Y'.length - X'.length), Y'.drop (Y'.length - X'.length), (List.take_append_drop _ _).symm, by simp; omega⟩
        rw [List.length_append] at hgt hne hYl hy' ⊢
        have hs := swapRange_spec (P ++ F1) X' Ya Yb (F2 ++ Q) (n := X'.length) (a := IntKind.i64.wrap (((P.length + X.length : Nat) : Int) - (X'.length : Int))) (b := IntKind.i64.wrap ((IntKind.i64.wrap (((P.length + X.length : Nat) : Int) + ((Ya.length + Yb.length : Nat) : Int))) - (X'.length : Int))) rfl l1 (by rw [wrN (by omega) (by omega)]; simp; omega) (by rw [wrN (n := ((P.length + X.length : Nat) : Int) + ((Ya.length + Yb.length : Nat) : Int)) (by omega) (by omega), wrN (by omega) (by omega)]; simp; omega) (by simp; omega)
        have hl : P ++ (F1 ++ (X' ++ ((Ya ++ Yb) ++ (F2 ++ Q)))) = (P ++ F1) ++ (X' ++ (Ya ++ (Yb ++ (F2 ++ Q)))) := by simp
        rw [hl, hs, Option.bind_some, wrN (n := ((Ya.length + Yb.length : Nat) : Int) - (X'.length : Int)) (by omega) (by omega)]
        refine ⟨_, rfl, Yb.length + Ya.length, by omega, F1, Yb, Ya, X' ++ F2, by dsimp only; omega, by dsimp only; omega, by omega, by omega, rfl, by simp, by omega, by omega, ?_⟩
        rw [← hG]; simp
  · rintro (s | r) hq
    · obtain ⟨j, i, l⟩ := s
      obtain ⟨F1, X', Y', F2, rfl, hxy, rfl, hF, hYl, hG⟩ := hq
      rw [Lo.on]
      dsimp only
      have hs := swapRange_spec (P ++ F1) X' [] Y' (F2 ++ Q) (n := X'.length) (a := IntKind.i64.wrap (((P.length + X.length : Nat) : Int) - (X'.length : Int))) (b := ((P.length + X.length : Nat) : Int)) rfl hxy (by rw [wrN (by omega) (by omega)]; simp; omega) (by simp; omega) (by simp; omega)
      have hl : P ++ (F1 ++ (X' ++ (Y' ++ (F2 ++ Q)))) = (P ++ F1) ++ (X' ++ ([] ++ (Y' ++ (F2 ++ Q)))) := by simp
      rw [hl, hs, Option.bind_some]
      refine ⟨_, rfl, ?_⟩
      have : (P ++ F1) ++ (Y' ++ ([] ++ (X' ++ (F2 ++ Q)))) = P ++ ((F1 ++ (Y' ++ (X' ++ F2))) ++ Q) := by simp
      rw [this, hG]; simp
    · exact hq.elim
end Go.Sl
