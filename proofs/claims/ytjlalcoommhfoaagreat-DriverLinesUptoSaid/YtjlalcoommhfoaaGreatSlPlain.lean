/- Plain laws of loops, digits and numbers. -/
import Derived.Test.YtjlalcoommhfoaaGreatSlEq
set_option linter.unusedVariables false
set_option linter.unusedSimpArgs false
namespace Go.Sl
section
variable {α σ β : Type}
theorem loopW_step {f : σ → Option (Ct σ β)} {s : σ} : loopW f s = (f s).bind fun | .nx s' => loopW f s' | .br s' => some (.dn s') | .rt r => some (.rt r) := by
  cases hf : f s with
  | none =>
    unfold loopW
    rw [dif_neg]
    · rfl
    · rintro ⟨n, o, h⟩
      cases n with
      | zero => simp [loopK] at h
      | succ n => simp [loopK, hf] at h
  | some c =>
    cases c with
    | br s' => exact loopW_of (n := 1) (by simp [loopK, hf])
    | rt r => exact loopW_of (n := 1) (by simp [loopK, hf])
    | nx s' =>
      show loopW f s = loopW f s'
      cases h : loopW f s' with
      | some o =>
        obtain ⟨n, hn⟩ := loopW_k h
        exact loopW_of (n := n + 1) (by simp [loopK, hf, hn])
      | none =>
        cases h2 : loopW f s with
        | none => rfl
        | some o =>
          obtain ⟨n, hn⟩ := loopW_k h2
          cases n with
          | zero => simp [loopK] at hn
          | succ n =>
            simp [loopK, hf] at hn
            rw [loopW_of hn] at h
            cases h
/-- A loop by rounds, by a number that falls. -/
theorem loopW_by {f : σ → Option (Ct σ β)} (Inv : Nat → σ → Prop) (Q : Lo σ β → Prop)
    (step : ∀ k s, Inv k s → ∃ c, f s = some c ∧ match c with | .nx s' => ∃ j, j < k ∧ Inv j s' | .br s' => Q (.dn s') | .rt r => Q (.rt r)) : ∀ k s, Inv k s → ∃ o, loopW f s = some o ∧ Q o := by
  intro k
  induction k using Nat.strongRecOn with
  | _ k ih =>
    intro s hs
    obtain ⟨c, hc, h⟩ := step k s hs
    rw [loopW_step, hc]
    cases c with
    | nx s' => obtain ⟨j, hj, hi⟩ := h; exact ih j hj s' hi
    | br s' => exact ⟨_, rfl, h⟩
    | rt r => exact ⟨_, rfl, h⟩
theorem loopW_bind {γ : Type} {f : σ → Option (Ct σ β)} {s0 : σ} {g : Lo σ β → Option γ} {G : γ → Prop} (Inv : Nat → σ → Prop) (Q : Lo σ β → Prop) (k : Nat) (h0 : Inv k s0)
    (step : ∀ k s, Inv k s → ∃ c, f s = some c ∧ match c with | .nx s' => ∃ j, j < k ∧ Inv j s' | .br s' => Q (.dn s') | .rt r => Q (.rt r))
    (fin : ∀ o, Q o → ∃ r, g o = some r ∧ G r) : ∃ r, Option.bind (loopW f s0) g = some r ∧ G r := by
  obtain ⟨o, ho, hq⟩ := loopW_by Inv Q step k s0 h0
  rw [ho]
  exact fin o hq
/-- A loop over a list. -/
theorem loopR_by {f : Nat → α → σ → Option (Ct σ β)} {xs : List α} (Inv : Nat → σ → Prop) (Q : Lo σ β → Prop)
    (step : ∀ i x s, xs[i]? = some x → Inv i s → ∃ c, f i x s = some c ∧ match c with | .nx s' => Inv (i + 1) s' | .br s' => Q (.dn s') | .rt r => Q (.rt r))
    (fin : ∀ s, Inv xs.length s → Q (.dn s)) {s : σ} (h0 : Inv 0 s) : ∃ o, loopR f 0 xs s = some o ∧ Q o := by
  have key : ∀ (n i : Nat) (s : σ), xs.length - i = n → i ≤ xs.length → Inv i s → ∃ o, loopR f i (xs.drop i) s = some o ∧ Q o := by
    intro n
    induction n with
    | zero =>
      intro i s hn hi hs
      have : i = xs.length := by omega
      subst this
      rw [List.drop_length]
      exact ⟨_, rfl, fin s hs⟩
    | succ n ih =>
      intro i s hn hi hs
      have hlt : i < xs.length := by omega
      obtain ⟨c, hc, h⟩ := step i xs[i] s (List.getElem?_eq_getElem hlt) hs
      rw [List.drop_eq_getElem_cons hlt, loopR, hc]
      cases c with
      | nx s' => exact ih (i + 1) s' (by omega) (by omega) h
      | br s' => exact ⟨_, rfl, h⟩
      | rt r => exact ⟨_, rfl, h⟩
  simpa using key xs.length 0 s (by omega) (by omega) h0
theorem loopR_bind {γ : Type} {f : Nat → α → σ → Option (Ct σ β)} {xs : List α} {s0 : σ} {g : Lo σ β → Option γ} {G : γ → Prop} (Inv : Nat → σ → Prop) (Q : Lo σ β → Prop) (h0 : Inv 0 s0)
    (step : ∀ i x s, xs[i]? = some x → Inv i s → ∃ c, f i x s = some c ∧ match c with | .nx s' => Inv (i + 1) s' | .br s' => Q (.dn s') | .rt r => Q (.rt r))
    (last : ∀ s, Inv xs.length s → Q (.dn s)) (fin : ∀ o, Q o → ∃ r, g o = some r ∧ G r) : ∃ r, Option.bind (loopR f 0 xs s0) g = some r ∧ G r := by
  obtain ⟨o, ho, hq⟩ := loopR_by Inv Q step last h0
  rw [ho]
  exact fin o hq
theorem wrap64 {n : Int} (h : -9223372036854775808 ≤ n) (h2 : n < 9223372036854775808) : IntKind.i64.wrap n = n := by
  simp only [IntKind.wrap, IntKind.bits, IntKind.signed]
  simp
  omega
theorem at_nat {xs : List α} {i : Nat} : at_ xs (i : Int) = xs[i]? := by simp [at_]
/-- The number of digits of 16 bits, the lowest first. -/
def dv : List Int → Int
  | [] => 0
  | d :: l => d + 65536 * dv l
theorem dv_append (l : List Int) (d : Int) : dv (l ++ [d]) = dv l + d * 65536 ^ l.length := by
  induction l with
  | nil => simp [dv]
  | cons x l ih =>
    simp only [List.cons_append, dv, ih, List.length_cons, Int.pow_succ]
    rw [Int.mul_add, Int.add_assoc]
    congr 2
    rw [← Int.mul_assoc, Int.mul_comm 65536 d, Int.mul_assoc, Int.mul_comm 65536]
def Dig (l : List Int) : Prop := ∀ x ∈ l, 0 ≤ x ∧ x < 65536
theorem dv_nn : ∀ {l : List Int}, Dig l → 0 ≤ dv l
  | [], _ => by simp [dv]
  | x :: l, h => by
    have := dv_nn (l := l) fun y hy => h y (List.mem_cons_of_mem _ hy)
    have := h x List.mem_cons_self
    simp only [dv]; omega
theorem dv_lt : ∀ {l : List Int}, Dig l → dv l < 65536 ^ l.length
  | [], _ => by simp [dv]
  | x :: l, h => by
    have h1 := dv_lt (l := l) fun y hy => h y (List.mem_cons_of_mem _ hy)
    have := h x List.mem_cons_self
    simp only [dv, List.length_cons, Int.pow_succ]
    generalize (65536 : Int) ^ l.length = p at h1 ⊢
    omega
theorem dv_take (l : List Int) (i : Nat) (x : Int) (h : l[i]? = some x) : dv (l.take (i + 1)) = dv (l.take i) + x * 65536 ^ i := by
  have hlt := (List.getElem?_eq_some_iff.1 h).1
  have h1 : l.take (i + 1) = l.take i ++ [x] := by
    rw [List.take_add_one, h]; rfl
  rw [h1, dv_append, List.length_take, Nat.min_eq_left (by omega)]
theorem dv_take_le {l : List Int} (h : Dig l) : ∀ n, dv (l.take n) ≤ dv l := by
  induction l with
  | nil => simp
  | cons x l ih =>
    have ih' := ih fun y hy => h y (List.mem_cons_of_mem _ hy)
    intro n
    have hx := h x List.mem_cons_self
    have hl := dv_nn (l := l) fun y hy => h y (List.mem_cons_of_mem _ hy)
    cases n with
    | zero => simp [dv]; omega
    | succ n =>
      have := ih' n
      simp only [List.take_succ_cons, dv]; omega
theorem Dig.take {l : List Int} (h : Dig l) (n : Nat) : Dig (l.take n) := fun x hx => h x (List.mem_of_mem_take hx)
theorem Dig.at {l : List Int} (h : Dig l) {n : Nat} {x : Int} (hx : l[n]? = some x) : 0 ≤ x ∧ x < 65536 := h x (List.mem_of_getElem? hx)
theorem Dig.app {l : List Int} (h : Dig l) {x : Int} (h0 : 0 ≤ x) (h1 : x < 65536) : Dig (l ++ [x]) := fun y hy => by
  rcases List.mem_append.1 hy with hm | hm
  · exact h y hm
  · rw [List.mem_singleton.1 hm]; exact ⟨h0, h1⟩
theorem tdiv_nat (n k : Nat) : Int.tdiv (n : Int) (k : Int) = ((n / k : Nat) : Int) := by simp
theorem tmod_nat (n k : Nat) : Int.tmod (n : Int) (k : Int) = ((n % k : Nat) : Int) := rfl
theorem dv_split : ∀ (l : List Int) (n : Nat), n ≤ l.length → dv l = dv (l.take n) + 65536 ^ n * dv (l.drop n)
  | l, 0, _ => by simp [dv]
  | [], n + 1, h => by simp at h
  | x :: l, n + 1, h => by
    have := dv_split l n (by simpa using h)
    simp only [dv, List.take_succ_cons, List.drop_succ_cons, this, Int.pow_succ]
    rw [Int.mul_add, Int.add_assoc, Int.mul_comm (65536 ^ n) 65536, Int.mul_assoc]
theorem drop_cons {l : List Int} {n : Nat} {x : Int} (h : l[n]? = some x) : l.drop n = x :: l.drop (n + 1) := by
  obtain ⟨hlt, rfl⟩ := List.getElem?_eq_some_iff.1 h
  exact List.drop_eq_getElem_cons hlt
theorem dv_less {A B : List Int} {n : Nat} {x y : Int} (ha : Dig A) (hb : Dig B) (hl : A.length = B.length) (hx : A[n]? = some x) (hy : B[n]? = some y) (hd : A.drop (n + 1) = B.drop (n + 1)) (h : x < y) : dv A < dv B := by
  have h1 := (List.getElem?_eq_some_iff.1 hx).1
  rw [dv_split A (n + 1) (by omega), dv_split B (n + 1) (by omega), hd, dv_take A n x hx, dv_take B n y hy]
  have t1 := dv_lt (ha.take n)
  rw [List.length_take, Nat.min_eq_left (by omega)] at t1
  have t2 := dv_nn (hb.take n)
  have := Int.mul_le_mul_of_nonneg_right (a := x + 1) (b := y) (c := 65536 ^ n) (by omega) (Int.pow_nonneg (by omega))
  rw [Int.add_mul] at this
  omega
end
end Go.Sl
