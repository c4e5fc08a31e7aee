/- Plain laws of the wide numbers. -/
import Derived.Test.YteijfoldbinghaaGreatHpLwCat
set_option linter.unusedVariables false
set_option linter.unusedSimpArgs false
namespace Go.Sl
abbrev B256 : Nat := 115792089237316195423570985008687907853269984665640564039457584007913129639936
/-- A wide number's value. -/
def V (w : api_Wide) : Nat := w.a0.toNat + 18446744073709551616 * w.a1.toNat + 340282366920938463463374607431768211456 * w.a2.toNat + 6277101735386680763835789423207666416102355444464034512896 * w.a3.toNat
abbrev W0 : api_Wide := ⟨0, 0, 0, 0⟩
theorem V_lt (w : api_Wide) : V w < B256 := by
  have h0 := w.a0.toNat_lt; have h1 := w.a1.toNat_lt; have h2 := w.a2.toNat_lt; have h3 := w.a3.toNat_lt
  unfold V B256; omega
theorem V_inj {a b : api_Wide} (h : V a = V b) : a = b := by
  have h0 := a.a0.toNat_lt; have h1 := a.a1.toNat_lt; have h2 := a.a2.toNat_lt; have h3 := a.a3.toNat_lt
  have g0 := b.a0.toNat_lt; have g1 := b.a1.toNat_lt; have g2 := b.a2.toNat_lt; have g3 := b.a3.toNat_lt
  obtain ⟨a0, a1, a2, a3⟩ := a
  obtain ⟨b0, b1, b2, b3⟩ := b
  unfold V at h
  simp only at *
  have e0 : a0.toNat = b0.toNat := by omega
  have e1 : a1.toNat = b1.toNat := by omega
  have e2 : a2.toNat = b2.toNat := by omega
  have e3 : a3.toNat = b3.toNat := by omega
  rw [UInt64.toNat_inj.1 e0, UInt64.toNat_inj.1 e1, UInt64.toNat_inj.1 e2, UInt64.toNat_inj.1 e3]
theorem V_zero : V W0 = 0 := by decide
theorem V_eq_zero {a : api_Wide} (h : V a = 0) : a = W0 := V_inj (h.trans V_zero.symm)
theorem add64_val {x y c : UInt64} (hc : c.toNat ≤ 1) : (add64 x y c).1.toNat + 18446744073709551616 * (add64 x y c).2.toNat = x.toNat + y.toNat + c.toNat := by
  have hx := x.toNat_lt; have hy := y.toNat_lt
  unfold add64
  dsimp only
  rw [UInt64.toNat_add, UInt64.toNat_add]
  split <;> simp <;> omega
theorem sub64_val {x y c : UInt64} (hc : c.toNat ≤ 1) : (sub64 x y c).1.toNat + y.toNat + c.toNat = x.toNat + 18446744073709551616 * (sub64 x y c).2.toNat := by
  have hx := x.toNat_lt; have hy := y.toNat_lt
  unfold sub64
  dsimp only
  rw [UInt64.toNat_sub, UInt64.toNat_sub]
  split <;> simp <;> omega
theorem u0 {x : UInt64} (h : x.toNat ≤ 1) : (x ≠ 0) ↔ x.toNat = 1 := by
  constructor
  · intro hx
    have : x.toNat ≠ 0 := fun e => hx (UInt64.toNat_inj.1 e)
    omega
  · intro e hx; subst hx; simp at e
theorem wide_Add_spec (a b : api_Wide) : (V a + V b < B256 → (wide_Add a b).2 = true ∧ V (wide_Add a b).1 = V a + V b) ∧ (B256 ≤ V a + V b → wide_Add a b = (W0, false)) := by
  unfold wide_Add
  have e0 := add64_val (x := a.a0) (y := b.a0) zero_le1
  have l0 := add64_le (x := a.a0) (y := b.a0) (c := 0)
  generalize add64 a.a0 b.a0 0 = r0 at *
  have e1 := add64_val (x := a.a1) (y := b.a1) l0
  have l1 := add64_le (x := a.a1) (y := b.a1) (c := r0.2)
  generalize add64 a.a1 b.a1 r0.2 = r1 at *
  have e2 := add64_val (x := a.a2) (y := b.a2) l1
  have l2 := add64_le (x := a.a2) (y := b.a2) (c := r1.2)
  generalize add64 a.a2 b.a2 r1.2 = r2 at *
  have e3 := add64_val (x := a.a3) (y := b.a3) l2
  have l3 := add64_le (x := a.a3) (y := b.a3) (c := r2.2)
  generalize add64 a.a3 b.a3 r2.2 = r3 at *
  have h0 := r0.1.toNat_lt; have h1 := r1.1.toNat_lt; have h2 := r2.1.toNat_lt; have h3 := r3.1.toNat_lt
  have z : (0 : UInt64).toNat = 0 := rfl
  rw [z] at e0
  by_cases hc : r3.2 ≠ 0
  · rw [if_pos (decide_eq_true hc)]
    have := (u0 l3).1 hc
    exact ⟨fun h => absurd h (by unfold V B256; omega), fun _ => rfl⟩
  · rw [if_neg (by simpa using hc)]
    have : ¬ r3.2.toNat = 1 := fun e => hc ((u0 l3).2 e)
    refine ⟨fun _ => ⟨rfl, ?_⟩, fun h => absurd h ?_⟩
    · unfold V; dsimp only; omega
    · unfold V B256; omega
theorem wide_Sub_spec (a b : api_Wide) : (V b ≤ V a → (wide_Sub a b).2 = true ∧ V (wide_Sub a b).1 = V a - V b) ∧ (V a < V b → wide_Sub a b = (W0, false)) := by
  unfold wide_Sub
  have e0 := sub64_val (x := a.a0) (y := b.a0) zero_le1
  have l0 := sub64_le (x := a.a0) (y := b.a0) (c := 0)
  generalize sub64 a.a0 b.a0 0 = r0 at *
  have e1 := sub64_val (x := a.a1) (y := b.a1) l0
  have l1 := sub64_le (x := a.a1) (y := b.a1) (c := r0.2)
  generalize sub64 a.a1 b.a1 r0.2 = r1 at *
  have e2 := sub64_val (x := a.a2) (y := b.a2) l1
  have l2 := sub64_le (x := a.a2) (y := b.a2) (c := r1.2)
  generalize sub64 a.a2 b.a2 r1.2 = r2 at *
  have e3 := sub64_val (x := a.a3) (y := b.a3) l2
  have l3 := sub64_le (x := a.a3) (y := b.a3) (c := r2.2)
  generalize sub64 a.a3 b.a3 r2.2 = r3 at *
  have h0 := r0.1.toNat_lt; have h1 := r1.1.toNat_lt; have h2 := r2.1.toNat_lt; have h3 := r3.1.toNat_lt
  have z : (0 : UInt64).toNat = 0 := rfl
  rw [z] at e0
  by_cases hc : r3.2 ≠ 0
  · rw [if_pos (decide_eq_true hc)]
    have := (u0 l3).1 hc
    exact ⟨fun h => absurd h (by unfold V; omega), fun _ => rfl⟩
  · rw [if_neg (by simpa using hc)]
    have : ¬ r3.2.toNat = 1 := fun e => hc ((u0 l3).2 e)
    refine ⟨fun _ => ⟨rfl, ?_⟩, fun h => absurd h ?_⟩
    · unfold V; dsimp only; omega
    · unfold V; omega

/-! ### The plain reference -/
end Go.Sl
