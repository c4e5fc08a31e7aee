/- The library's merging in place: where one side is a single one. -/
import Derived.Test.YteijfoldbinghaaLwSrt3
set_option linter.unusedVariables false
set_option linter.unusedSimpArgs false
namespace Go.Sl
theorem half {x y : Nat} (h : x + y ≤ 1099511627776) : IntKind.i64.wrap ((rshU (Ui (IntKind.i64.wrap ((x : Int) + (y : Int)))) 1).toNat : Int) = (((x + y) / 2 : Nat) : Int) := by
  rw [wrN (n := (x : Int) + (y : Int)) (by omega) (by omega)]
  have hu : (Ui ((x : Int) + (y : Int))).toNat = x + y := by
    unfold Ui
    rw [UInt64.toNat_ofNat']
    omega
  unfold rshU
  have e : min (Int.toNat 1) 64 = 1 := rfl
  rw [e, hu, UInt64.toNat_ofNat']
  have : (x + y) / 2 ^ 1 % 2 ^ 64 = (x + y) / 2 := by omega
  rw [this, wrN (by omega) (by omega)]
/-- Looking for a place: what is below is small, what is from it on is great. -/
theorem search {β : Type} {f : Int × Int → Option (Ct (Int × Int) β)} {lo hi : Nat} (hlh : lo ≤ hi) (hb : hi ≤ 1099511627776) (A : Nat → Prop) (B : Nat → Prop)
    (stop : ∀ i : Nat, f ((i : Int), (i : Int)) = some (.br ((i : Int), (i : Int))))
    (step : ∀ i j : Nat, lo ≤ i → i < j → j ≤ hi → (f ((j : Int), (i : Int)) = some (.nx ((j : Int), (((i + j) / 2 + 1 : Nat) : Int))) ∧ A ((i + j) / 2)) ∨ (f ((j : Int), (i : Int)) = some (.nx ((((i + j) / 2 : Nat) : Int), (i : Int))) ∧ B ((i + j) / 2))) :
    ∃ k : Nat, loopW f ((hi : Int), (lo : Int)) = some (.dn ((k : Int), (k : Int))) ∧ lo ≤ k ∧ k ≤ hi ∧ (lo < k → A (k - 1)) ∧ (k < hi → B k) := by
  have key : ∀ (n i j : Nat), j - i = n → lo ≤ i → i ≤ j → j ≤ hi → (lo < i → A (i - 1)) → (j < hi → B j) → ∃ k : Nat, loopW f ((j : Int), (i : Int)) = some (.dn ((k : Int), (k : Int))) ∧ lo ≤ k ∧ k ≤ hi ∧ (lo < k → A (k - 1)) ∧ (k < hi → B k) := by
    intro n
    induction n using Nat.strongRecOn with
    | _ n ih =>
      intro i j hn h1 h2 h3 hA hB
      by_cases hij : i = j
      · subst hij
        rw [loopW_step, stop]
        exact ⟨i, rfl, h1, h3, hA, hB⟩
      · rw [loopW_step]
        rcases step i j h1 (by omega) h3 with ⟨e, a⟩ | ⟨e, b⟩
        · rw [e]
          exact ih (j - ((i + j) / 2 + 1)) (by omega) _ _ rfl (by omega) (by omega) h3 (fun _ => by simpa using a) hB
        · rw [e]
          exact ih ((i + j) / 2 - i) (by omega) _ _ rfl h1 (by omega) (by omega) hA (fun _ => b)
  exact key _ lo hi rfl (Nat.le_refl _) hlh (Nat.le_refl _) (fun h => by omega) (fun h => by omega)
theorem at_part (P X Q : List clock_Stamp) {i : Nat} {u : clock_Stamp} (h : X[i]? = some u) {j : Nat} (hj : j = P.length + i) : (P ++ (X ++ Q))[j]? = some u := by
  subst hj
  rw [List.getElem?_append_right (by omega), Nat.add_sub_cancel_left, List.getElem?_append_left (List.getElem?_eq_some_iff.1 h).1, h]
/-- One goes to the right, over so many. -/
theorem move_right (P : List clock_Stamp) (x : clock_Stamp) (Y Q : List clock_Stamp) {a e : Int} {c : Nat} (hc : c ≤ Y.length) (ha : a = P.length) (he : e = ((P.length + c : Nat) : Int)) (hlen : P.length + Y.length ≤ 4194304) {β : Type} :
    loopW (β := β) (fun (s31 : Int × (List clock_Stamp)) => if (decide (s31.1 < e)) = true then (Option.bind (at_ s31.2 (IntKind.i64.wrap (s31.1 + 1))) fun (x44 : clock_Stamp) => Option.bind (at_ s31.2 s31.1) fun (x51 : clock_Stamp) => Option.bind (at_ s31.2 s31.1) fun (x58 : clock_Stamp) => Option.bind (at_ ((s31.2.set ((s31.1).toNat) (x44 : clock_Stamp))) (IntKind.i64.wrap (s31.1 + 1))) fun (x65 : clock_Stamp) => some (.nx ((IntKind.i64.wrap (s31.1 + 1), (((s31.2.set ((s31.1).toNat) (x44 : clock_Stamp))).set ((IntKind.i64.wrap (s31.1 + 1)).toNat) (x51 : clock_Stamp)))))) else (some (.br (s31.1, s31.2)))) (a, P ++ (x :: (Y ++ Q))) = some (.dn (e, P ++ (Y.take c ++ x :: (Y.drop c ++ Q)))) := by
  subst ha he
  refine bnd_conv ?_
  refine loopW_by (fun k s => ∃ i : Nat, s.1 = ((P.length + i : Nat) : Int) ∧ i ≤ c ∧ k = c - i ∧ s.2 = P ++ (Y.take i ++ x :: (Y.drop i ++ Q))) (fun o => o = .dn (((P.length + c : Nat) : Int), P ++ (Y.take c ++ x :: (Y.drop c ++ Q)))) ?_ c _ ⟨0, rfl, by omega, by omega, by simp⟩
  rintro k ⟨i0, l⟩ ⟨i, rfl, hi, rfl, rfl⟩
  dsimp only
  by_cases hlt : i < c
  · rw [if_pos (decide_eq_true (by omega))]
    have hu := List.getElem?_eq_getElem (l := Y) (i := i) (by omega)
    generalize Y[i] = u at hu
    have hd := drop_c hu
    have ht : Y.take (i + 1) = Y.take i ++ [u] := by rw [List.take_add_one, hu]; rfl
    have form : P ++ (Y.take i ++ x :: (Y.drop i ++ Q)) = (P ++ Y.take i) ++ x :: ([] ++ u :: (Y.drop (i + 1) ++ Q)) := by rw [hd]; simp
    have hp : (P ++ Y.take i).length = P.length + i := by simp; omega
    have hm : (P ++ Y.take i).length + 1 + ([] : List clock_Stamp).length = P.length + (i + 1) := by simp; omega
    have g1 := get_mid (P ++ Y.take i) ([] ++ u :: (Y.drop (i + 1) ++ Q)) x hp
    have g2 := get_mid2 (P ++ Y.take i) [] (Y.drop (i + 1) ++ Q) x u hm
    have sw := set_swap (P ++ Y.take i) [] (Y.drop (i + 1) ++ Q) x u hp hm
    have w1 : IntKind.i64.wrap (((P.length + i : Nat) : Int) + 1) = ((P.length + (i + 1) : Nat) : Int) := by rw [wrN (by omega) (by omega)]; omega
    rw [form, w1, at_nat, g2, Option.bind_some, at_nat, g1, Option.bind_some, Option.bind_some, Int.toNat_natCast, Int.toNat_natCast]
    have g3 : ∃ z, at_ (((P ++ Y.take i) ++ x :: ([] ++ u :: (Y.drop (i + 1) ++ Q))).set (P.length + i) u) ((P.length + (i + 1) : Nat) : Int) = some z := by
      rw [at_nat]
      have h := (List.getElem?_eq_some_iff.1 g2).1
      exact ⟨_, List.getElem?_eq_getElem (by rw [List.length_set]; exact h)⟩
    obtain ⟨z, hz⟩ := g3
    rw [hz, Option.bind_some]
    refine ⟨_, rfl, c - (i + 1), by omega, i + 1, rfl, by omega, rfl, ?_⟩
    dsimp only
    rw [sw, ht]; simp
  · rw [if_neg (by rw [decide_eq_true_iff]; omega)]
    obtain rfl : i = c := by omega
    exact ⟨_, rfl, rfl⟩
/-- One goes to the left, down to a place. -/
theorem move_left (P X : List clock_Stamp) (y : clock_Stamp) (Q : List clock_Stamp) {m e : Int} {c : Nat} (hc : c ≤ X.length) (hm : m = ((P.length + X.length : Nat) : Int)) (he : e = ((P.length + c : Nat) : Int)) (hlen : P.length + X.length ≤ 4194304) {β : Type} :
    loopW (β := β) (fun (s101 : Int × (List clock_Stamp)) => if (decide (s101.1 > e)) = true then (Option.bind (at_ s101.2 (IntKind.i64.wrap (s101.1 - 1))) fun (x114 : clock_Stamp) => Option.bind (at_ s101.2 s101.1) fun (x121 : clock_Stamp) => Option.bind (at_ s101.2 s101.1) fun (x128 : clock_Stamp) => Option.bind (at_ ((s101.2.set ((s101.1).toNat) (x114 : clock_Stamp))) (IntKind.i64.wrap (s101.1 - 1))) fun (x135 : clock_Stamp) => some (.nx ((IntKind.i64.wrap (s101.1 - 1), (((s101.2.set ((s101.1).toNat) (x114 : clock_Stamp))).set ((IntKind.i64.wrap (s101.1 - 1)).toNat) (x121 : clock_Stamp)))))) else (some (.br (s101.1, s101.2)))) (m, P ++ (X ++ y :: Q)) = some (.dn (e, P ++ (X.take c ++ y :: (X.drop c ++ Q)))) := by
  subst hm he
  refine bnd_conv ?_
  refine loopW_by (fun k s => ∃ i : Nat, s.1 = ((P.length + i : Nat) : Int) ∧ c ≤ i ∧ i ≤ X.length ∧ k = i - c ∧ s.2 = P ++ (X.take i ++ y :: (X.drop i ++ Q))) (fun o => o = .dn (((P.length + c : Nat) : Int), P ++ (X.take c ++ y :: (X.drop c ++ Q)))) ?_ (X.length - c) _ ⟨X.length, rfl, hc, by omega, rfl, by simp⟩
  rintro k ⟨i0, l⟩ ⟨i, rfl, hci, hi, rfl, rfl⟩
  dsimp only
  by_cases hlt : c < i
  · rw [if_pos (decide_eq_true (by omega))]
    obtain ⟨j, rfl⟩ : ∃ j, i = j + 1 := ⟨i - 1, by omega⟩
    have hu := List.getElem?_eq_getElem (l := X) (i := j) (by omega)
    generalize X[j] = u at hu
    have hd := drop_c hu
    have ht : X.take (j + 1) = X.take j ++ [u] := by rw [List.take_add_one, hu]; rfl
    have form : P ++ (X.take (j + 1) ++ y :: (X.drop (j + 1) ++ Q)) = (P ++ X.take j) ++ u :: ([] ++ y :: (X.drop (j + 1) ++ Q)) := by rw [ht]; simp
    have hp : (P ++ X.take j).length = P.length + j := by simp; omega
    have hm : (P ++ X.take j).length + 1 + ([] : List clock_Stamp).length = P.length + (j + 1) := by simp; omega
    have g1 := get_mid (P ++ X.take j) ([] ++ y :: (X.drop (j + 1) ++ Q)) u hp
    have g2 := get_mid2 (P ++ X.take j) [] (X.drop (j + 1) ++ Q) u y hm
    have sw := set_swap (P ++ X.take j) [] (X.drop (j + 1) ++ Q) u y hp hm
    have w1 : IntKind.i64.wrap (((P.length + (j + 1) : Nat) : Int) - 1) = ((P.length + j : Nat) : Int) := by rw [wrN (by omega) (by omega)]; omega
    rw [form, w1, at_nat, g1, Option.bind_some, at_nat, g2, Option.bind_some, Option.bind_some, Int.toNat_natCast, Int.toNat_natCast]
    have g3 : ∃ z, at_ (((P ++ X.take j) ++ u :: ([] ++ y :: (X.drop (j + 1) ++ Q))).set (P.length + (j + 1)) u) ((P.length + j : Nat) : Int) = some z := by
      rw [at_nat]
      have h := (List.getElem?_eq_some_iff.1 g1).1
      exact ⟨_, List.getElem?_eq_getElem (by rw [List.length_set]; exact h)⟩
    obtain ⟨z, hz⟩ := g3
    rw [hz, Option.bind_some]
    refine ⟨_, rfl, j - c, by omega, j, rfl, by omega, by omega, rfl, ?_⟩
    dsimp only
    rw [List.set_comm _ _ (by omega), sw, hd]; simp
  · rw [if_neg (by rw [decide_eq_true_iff]; omega)]
    obtain rfl : i = c := by omega
    exact ⟨_, rfl, rfl⟩
end Go.Sl
