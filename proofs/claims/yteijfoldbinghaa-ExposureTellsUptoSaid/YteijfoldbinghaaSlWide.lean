/- Plain laws of the wide numbers: the program's, and those of the plain reference. -/
import Derived.Test.YteijfoldbinghaaSlGw
import Derived.Test.YteijfoldbinghaaSlPlain
set_option linter.unusedVariables false
set_option linter.unusedSimpArgs false
namespace Go.Sl
abbrev B256 : Nat := 115792089237316195423570985008687907853269984665640564039457584007913129639936
/-- A wide number's value. -/
def V (w : api_Wide) : Nat := w.a0.toNat + 18446744073709551616 * w.a1.toNat + 340282366920938463463374607431768211456 * w.a2.toNat + 6277101735386680763835789423207666416102355444464034512896 * w.a3.toNat
abbrev W0 : api_Wide := ⟨0, 0, 0, 0⟩
theorem V_lt (w : api_Wide) : V w < B256 := by
  have h0 := w.a0.toNat_lt; have h1 := w.a1.toNat_lt; have h2 := w.a2.toNat_lt; have h3 := w.a3.toNat_lt
  unfold V B256; omega
theorem V_inj {a b : api_Wide} (h : V a = V b) : a = b := by
  have h0 := a.a0.toNat_lt; have h1 := a.a1.toNat_lt; have h2 := a.a2.toNat_lt; have h3 := a.a3.toNat_lt
  have g0 := b.a0.toNat_lt; have g1 := b.a1.toNat_lt; have g2 := b.a2.toNat_lt; have g3 := b.a3.toNat_lt
  obtain ⟨a0, a1, a2, a3⟩ := a
  obtain ⟨b0, b1, b2, b3⟩ := b
  unfold V at h
  simp only at *
  have e0 : a0.toNat = b0.toNat := by omega
  have e1 : a1.toNat = b1.toNat := by omega
  have e2 : a2.toNat = b2.toNat := by omega
  have e3 : a3.toNat = b3.toNat := by omega
  rw [UInt64.toNat_inj.1 e0, UInt64.toNat_inj.1 e1, UInt64.toNat_inj.1 e2, UInt64.toNat_inj.1 e3]
theorem V_zero : V W0 = 0 := by decide
theorem V_eq_zero {a : api_Wide} (h : V a = 0) : a = W0 := V_inj (h.trans V_zero.symm)
theorem add64_val {x y c : UInt64} (hc : c.toNat ≤ 1) : (add64 x y c).1.toNat + 18446744073709551616 * (add64 x y c).2.toNat = x.toNat + y.toNat + c.toNat := by
  have hx := x.toNat_lt; have hy := y.toNat_lt
  unfold add64
  dsimp only
  rw [UInt64.toNat_add, UInt64.toNat_add]
  split <;> simp <;> omega
theorem sub64_val {x y c : UInt64} (hc : c.toNat ≤ 1) : (sub64 x y c).1.toNat + y.toNat + c.toNat = x.toNat + 18446744073709551616 * (sub64 x y c).2.toNat := by
  have hx := x.toNat_lt; have hy := y.toNat_lt
  unfold sub64
  dsimp only
  rw [UInt64.toNat_sub, UInt64.toNat_sub]
  split <;> simp <;> omega
theorem u0 {x : UInt64} (h : x.toNat ≤ 1) : (x ≠ 0) ↔ x.toNat = 1 := by
  constructor
  · intro hx
    have : x.toNat ≠ 0 := fun e => hx (UInt64.toNat_inj.1 e)
    omega
  · intro e hx; subst hx; simp at e
theorem wide_Add_spec (a b : api_Wide) : (V a + V b < B256 → (wide_Add a b).2 = true ∧ V (wide_Add a b).1 = V a + V b) ∧ (B256 ≤ V a + V b → wide_Add a b = (W0, false)) := by
  unfold wide_Add
  have e0 := add64_val (x := a.a0) (y := b.a0) zero_le1
  have l0 := add64_le (x := a.a0) (y := b.a0) (c := 0)
  generalize add64 a.a0 b.a0 0 = r0 at *
  have e1 := add64_val (x := a.a1) (y := b.a1) l0
  have l1 := add64_le (x := a.a1) (y := b.a1) (c := r0.2)
  generalize add64 a.a1 b.a1 r0.2 = r1 at *
  have e2 := add64_val (x := a.a2) (y := b.a2) l1
  have l2 := add64_le (x := a.a2) (y := b.a2) (c := r1.2)
  generalize add64 a.a2 b.a2 r1.2 = r2 at *
  have e3 := add64_val (x := a.a3) (y := b.a3) l2
  have l3 := add64_le (x := a.a3) (y := b.a3) (c := r2.2)
  generalize add64 a.a3 b.a3 r2.2 = r3 at *
  have h0 := r0.1.toNat_lt; have h1 := r1.1.toNat_lt; have h2 := r2.1.toNat_lt; have h3 := r3.1.toNat_lt
  have z : (0 : UInt64).toNat = 0 := rfl
  rw [z] at e0
  by_cases hc : r3.2 ≠ 0
  · rw [if_pos (decide_eq_true hc)]
    have := (u0 l3).1 hc
    exact ⟨fun h => absurd h (by unfold V B256; omega), fun _ => rfl⟩
  · rw [if_neg (by simpa using hc)]
    have : ¬ r3.2.toNat = 1 := fun e => hc ((u0 l3).2 e)
    refine ⟨fun _ => ⟨rfl, ?_⟩, fun h => absurd h ?_⟩
    · unfold V; dsimp only; omega
    · unfold V B256; omega
theorem wide_Sub_spec (a b : api_Wide) : (V b ≤ V a → (wide_Sub a b).2 = true ∧ V (wide_Sub a b).1 = V a - V b) ∧ (V a < V b → wide_Sub a b = (W0, false)) := by
  unfold wide_Sub
  have e0 := sub64_val (x := a.a0) (y := b.a0) zero_le1
  have l0 := sub64_le (x := a.a0) (y := b.a0) (c := 0)
  generalize sub64 a.a0 b.a0 0 = r0 at *
  have e1 := sub64_val (x := a.a1) (y := b.a1) l0
  have l1 := sub64_le (x := a.a1) (y := b.a1) (c := r0.2)
  generalize sub64 a.a1 b.a1 r0.2 = r1 at *
  have e2 := sub64_val (x := a.a2) (y := b.a2) l1
  have l2 := sub64_le (x := a.a2) (y := b.a2) (c := r1.2)
  generalize sub64 a.a2 b.a2 r1.2 = r2 at *
  have e3 := sub64_val (x := a.a3) (y := b.a3) l2
  have l3 := sub64_le (x := a.a3) (y := b.a3) (c := r2.2)
  generalize sub64 a.a3 b.a3 r2.2 = r3 at *
  have h0 := r0.1.toNat_lt; have h1 := r1.1.toNat_lt; have h2 := r2.1.toNat_lt; have h3 := r3.1.toNat_lt
  have z : (0 : UInt64).toNat = 0 := rfl
  rw [z] at e0
  by_cases hc : r3.2 ≠ 0
  · rw [if_pos (decide_eq_true hc)]
    have := (u0 l3).1 hc
    exact ⟨fun h => absurd h (by unfold V; omega), fun _ => rfl⟩
  · rw [if_neg (by simpa using hc)]
    have : ¬ r3.2.toNat = 1 := fun e => hc ((u0 l3).2 e)
    refine ⟨fun _ => ⟨rfl, ?_⟩, fun h => absurd h ?_⟩
    · unfold V; dsimp only; omega
    · unfold V; omega

/-! ### The plain reference -/
theorem Digits_len (a : api_Wide) : (narrowsref01_Digits a).length = 16 := by unfold narrowsref01_Digits; rfl
theorem dig_wrap {x : UInt64} (h : x.toNat < 65536) : IntKind.i64.wrap (x.toNat : Int) = (x.toNat : Int) := wrap64 (by omega) (by omega)
theorem mod_lt' (x : UInt64) : (x % 65536).toNat < 65536 := by rw [UInt64.toNat_mod]; exact Nat.mod_lt _ (by decide)
theorem dig_in (x : UInt64) : 0 ≤ IntKind.i64.wrap ((x % 65536).toNat : Int) ∧ IntKind.i64.wrap ((x % 65536).toNat : Int) < 65536 := by
  have := mod_lt' x
  rw [dig_wrap this]; omega
theorem Digits_dig (a : api_Wide) : Dig (narrowsref01_Digits a) := by
  unfold narrowsref01_Digits
  intro x hx
  simp only [List.mem_cons, List.not_mem_nil, or_false] at hx
  rcases hx with rfl | rfl | rfl | rfl | rfl | rfl | rfl | rfl | rfl | rfl | rfl | rfl | rfl | rfl | rfl | rfl <;> exact dig_in _
theorem dig_key (x : UInt64) : ((x % 65536).toNat : Int) + 65536 * (((x / 65536) % 65536).toNat : Int) + 4294967296 * (((x / 65536 / 65536) % 65536).toNat : Int) + 281474976710656 * (((x / 65536 / 65536 / 65536) % 65536).toNat : Int) = x.toNat := by
  have hx := x.toNat_lt
  simp only [UInt64.toNat_mod, UInt64.toNat_div]
  have : (65536 : UInt64).toNat = 65536 := rfl
  rw [this]
  omega
theorem Digits_dv (a : api_Wide) : dv (narrowsref01_Digits a) = V a := by
  unfold narrowsref01_Digits
  have k0 := dig_key a.a0; have k1 := dig_key a.a1; have k2 := dig_key a.a2; have k3 := dig_key a.a3
  simp only [dv, dig_wrap (mod_lt' _)]
  unfold V
  omega
theorem inner {β : Type} (m : Nat) (hm : m ≤ 3) (u : UInt64) : loopW (fun (s : Int × UInt64) => if (decide (s.1 < (m : Int))) = true then (some (Ct.nx (β := β) ((IntKind.i64.wrap (s.1 + 1), s.2 * 65536)))) else (some (.br (s.1, s.2)))) (0, u) = some (.dn ((m : Int), u * 65536 ^ m)) := by
  have h : m = 0 ∨ m = 1 ∨ m = 2 ∨ m = 3 := by omega
  rcases h with rfl | rfl | rfl | rfl
  · rw [loopW_step]; simp
  · rw [loopW_step]; simp [wrap64]; rw [loopW_step]; simp
    rfl
  · rw [loopW_step]; simp [wrap64]; rw [loopW_step]; simp [wrap64]; rw [loopW_step]; simp
    rw [UInt64.mul_assoc]; rfl
  · rw [loopW_step]; simp [wrap64]; rw [loopW_step]; simp [wrap64]; rw [loopW_step]; simp [wrap64]; rw [loopW_step]; simp
    rw [UInt64.mul_assoc, UInt64.mul_assoc]; rfl
theorem Ui_nat {x : Int} (h : 0 ≤ x) (h2 : x < 18446744073709551616) : (Ui x).toNat = x.toNat := by
  unfold Ui
  rw [UInt64.toNat_ofNat']
  omega
theorem set_val {a : api_Wide} {i : Nat} {x : Int} (hi : i < 16) (h0 : 0 ≤ x) (h1 : x < 65536) (ha : (V a : Int) < 65536 ^ i) :
    ∃ y, (api_Wide.list a)[i / 4]? = some y ∧ (V (api_Wide.set a (i / 4) (y + Ui x * 65536 ^ (i % 4))) : Int) = V a + x * 65536 ^ i := by
  have hu := Ui_nat h0 (by omega)
  have hz : ∀ z : UInt64, z * 65536 ^ 0 = z := fun z => by simp
  have k0 := a.a0.toNat_lt; have k1 := a.a1.toNat_lt; have k2 := a.a2.toNat_lt; have k3 := a.a3.toNat_lt
  have e1 : ((65536 : UInt64) ^ 1).toNat = 65536 := rfl
  have e2 : ((65536 : UInt64) ^ 2).toNat = 4294967296 := rfl
  have e3 : ((65536 : UInt64) ^ 3).toNat = 281474976710656 := rfl
  obtain ⟨n, hn⟩ : ∃ n : Nat, x = n := ⟨x.toNat, by omega⟩
  subst hn
  have hu' : (Ui (n : Int)).toNat = n := by rw [hu]; simp
  generalize Ui (n : Int) = u at *
  have h : i = 0 ∨ i = 1 ∨ i = 2 ∨ i = 3 ∨ i = 4 ∨ i = 5 ∨ i = 6 ∨ i = 7 ∨ i = 8 ∨ i = 9 ∨ i = 10 ∨ i = 11 ∨ i = 12 ∨ i = 13 ∨ i = 14 ∨ i = 15 := by omega
  unfold V at *
  rcases h with rfl | rfl | rfl | rfl | rfl | rfl | rfl | rfl | rfl | rfl | rfl | rfl | rfl | rfl | rfl | rfl <;> refine ⟨_, rfl, ?_⟩ <;>
    simp only [api_Wide.set, Nat.reduceMod, Nat.reduceDiv, hz, if_true, if_false, Nat.reduceEqDiff, reduceIte, UInt64.toNat_add, UInt64.toNat_mul, e1, e2, e3, hu'] <;> simp only [Int.reducePow] at ha ⊢ <;> omega
theorem pow_mono {b : Int} (hb : 1 ≤ b) {m n : Nat} (h : m ≤ n) : b ^ m ≤ b ^ n := by
  induction h with
  | refl => exact Int.le_refl _
  | step h ih =>
    rename_i k
    rw [Int.pow_succ]
    have hp : 0 ≤ b ^ k := Int.pow_nonneg (by omega)
    have := Int.mul_le_mul_of_nonneg_left (a := 1) (b := b) (c := b ^ k) hb hp
    omega
theorem Made_spec {l : List Int} (hd : Dig l) (hlen : l.length < 4611686018427387904) : ∃ r, narrowsref01_Made l = some r ∧ (dv l < B256 → r.2 = true ∧ (V r.1 : Int) = dv l) ∧ ((B256 : Int) ≤ dv l → r = (W0, false)) := by
  unfold narrowsref01_Made
  refine loopW_bind (fun k (s : Int × api_Wide) => ∃ n : Nat, s.1 = n ∧ n ≤ l.length ∧ k = l.length - n ∧ (V s.2 : Int) = dv (l.take n))
    (fun o => match o with | .dn s => (V s.2 : Int) = dv l | .rt r => r = (W0, false) ∧ (B256 : Int) ≤ dv l) l.length ⟨0, rfl, by omega, by omega, by simp [dv, V_zero]⟩ ?_ ?_
  · (
      rintro k ⟨i, a⟩ ⟨n, rfl, hn, rfl, hv⟩
      dsimp only at hv ⊢
      by_cases hlt : n < l.length
      · rw [if_pos (by simpa using hlt)]
        have hx := List.getElem?_eq_getElem hlt
        generalize l[n] = x at hx
        have hxd := hd.at hx
        have hnx := dv_take l n x hx
        have hw : IntKind.i64.wrap ((n : Int) + 1) = ((n + 1 : Nat) : Int) := by rw [wrap64 (by omega) (by omega)]; simp
        simp only [at_nat, hx, Option.bind_some]
        by_cases h16 : 16 ≤ n
        · rw [if_pos (decide_eq_true (by omega))]
          by_cases hx0 : x = 0
          · refine ⟨.nx ((n + 1 : Nat), a), ?_, _, ?_, n + 1, rfl, by omega, rfl, ?_⟩
            · simp [hx0, Lo.on, hw]
            · omega
            · rw [hnx, hx0, hv]; simp
          · refine ⟨.rt (W0, false), ?_, rfl, ?_⟩
            · simp [hx0, Lo.on]
            · have h1 := dv_take_le hd (n + 1)
              have h2 := dv_nn (hd.take n)
              have h3 : (65536 : Int) ^ 16 ≤ 65536 ^ n := pow_mono (by decide) h16
              have h4 : (65536 : Int) ^ n ≤ x * 65536 ^ n := by
                have := Int.mul_le_mul_of_nonneg_right (a := 1) (b := x) (c := 65536 ^ n) (by omega) (by omega)
                omega
              have h5 : (65536 : Int) ^ 16 = B256 := by decide
              omega
        · rw [if_neg (by rw [decide_eq_true_iff]; omega)]
          have ha : (V a : Int) < 65536 ^ n := by
            rw [hv]
            have := dv_lt (hd.take n)
            rwa [List.length_take, Nat.min_eq_left hn] at this
          obtain ⟨y, hy, hval⟩ := set_val (a := a) (i := n) (x := x) (by omega) hxd.1 hxd.2 ha
          have hq : IntKind.i64.wrap (Int.tdiv (n : Int) 4) = ((n / 4 : Nat) : Int) := by
            rw [show (4 : Int) = ((4 : Nat) : Int) from rfl, tdiv_nat, wrap64 (by omega) (by omega)]
          have hm : Int.tmod (n : Int) 4 = ((n % 4 : Nat) : Int) := tmod_nat n 4
          refine ⟨.nx ((n + 1 : Nat), api_Wide.set a (n / 4) (y + Ui x * 65536 ^ (n % 4))), ?_, _, ?_, n + 1, rfl, by omega, rfl, ?_⟩
          · rw [hm, inner _ (by omega), hq]
            simp only [at_nat, hy, Option.bind_some, Int.toNat_natCast, Lo.on, hw]
          · omega
          · rw [hnx, ← hv, ← hval]
      · rw [if_neg (by simpa using hlt)]
        refine ⟨.br ((n : Int), a), rfl, ?_⟩
        show (V a : Int) = dv l
        rw [hv, List.take_of_length_le (by omega)])
  rintro o hq
  cases o with
  | dn s =>
    refine ⟨(s.2, true), rfl, fun _ => ⟨rfl, hq⟩, fun h => absurd h ?_⟩
    have := V_lt s.2
    have hq' : (V s.2 : Int) = dv l := hq
    omega
  | rt r =>
    obtain ⟨rfl, hq⟩ := hq
    exact ⟨(W0, false), rfl, fun h => absurd h (by omega), fun _ => rfl⟩
theorem refAdd_spec (a b : api_Wide) : ∃ r, narrowsref01_Add a b = some r ∧ (V a + V b < B256 → r.2 = true ∧ V r.1 = V a + V b) ∧ (B256 ≤ V a + V b → r = (W0, false)) := by
  unfold narrowsref01_Add
  have la := Digits_len a; have lb := Digits_len b
  have da := Digits_dig a; have db := Digits_dig b
  have va := Digits_dv a; have vb := Digits_dv b
  generalize narrowsref01_Digits a = A at *
  generalize narrowsref01_Digits b = B at *
  refine loopW_bind (fun k s => ∃ n : Nat, s.1 = n ∧ n ≤ 16 ∧ k = 16 - n ∧ s.2.2.length = n ∧ Dig s.2.2 ∧ 0 ≤ s.2.1 ∧ s.2.1 ≤ 1 ∧ dv s.2.2 + s.2.1 * 65536 ^ n = dv (A.take n) + dv (B.take n))
    (fun o => match o with | .dn s => s.2.2.length = 16 ∧ Dig s.2.2 ∧ 0 ≤ s.2.1 ∧ s.2.1 ≤ 1 ∧ dv (s.2.2 ++ [s.2.1]) = V a + V b | .rt r => False) 16 ⟨0, rfl, by omega, by omega, rfl, fun x hx => by simp at hx, by decide, by decide, by simp [dv]⟩ ?_ ?_
  · rintro k ⟨i, c, out⟩ ⟨n, rfl, hn, rfl, hl, hd, hc0, hc1, hv⟩
    dsimp only at hl hd hc0 hc1 hv ⊢
    by_cases hlt : n < 16
    · rw [if_pos (decide_eq_true (by omega))]
      have hx := List.getElem?_eq_getElem (l := A) (i := n) (by omega)
      have hy := List.getElem?_eq_getElem (l := B) (i := n) (by omega)
      generalize A[n] = x at hx
      generalize B[n] = y at hy
      have hxd := da.at hx; have hyd := db.at hy
      have hw : IntKind.i64.wrap ((n : Int) + 1) = ((n + 1 : Nat) : Int) := by rw [wrap64 (by omega) (by omega)]; simp
      rw [at_nat, hx, Option.bind_some, at_nat, hy, Option.bind_some, wrap64 (n := c + x) (by omega) (by omega), wrap64 (n := c + x + y) (by omega) (by omega)]
      have e1 : Int.tmod (c + x + y) 65536 = (c + x + y) % 65536 := Int.tmod_eq_emod_of_nonneg (by omega)
      have e2 : Int.tdiv (c + x + y) 65536 = (c + x + y) / 65536 := Int.tdiv_eq_ediv_of_nonneg (by omega)
      rw [e1, e2, hw, wrap64 (n := (c + x + y) / 65536) (by omega) (by omega), grd_pos (by simp [hl]; omega)]
      refine ⟨_, rfl, 16 - (n + 1), by omega, n + 1, rfl, by omega, rfl, by simp [hl], hd.app (by omega) (by omega), by dsimp only; omega, by dsimp only; omega, ?_⟩
      rw [dv_append, hl, dv_take A n x hx, dv_take B n y hy, Int.pow_succ]
      have key : (c + x + y) % 65536 + 65536 * ((c + x + y) / 65536) = c + x + y := by omega
      have h1 : (c + x + y) / 65536 * (65536 ^ n * 65536) = (65536 * ((c + x + y) / 65536)) * 65536 ^ n := by
        rw [Int.mul_comm (65536 ^ n) 65536, ← Int.mul_assoc, Int.mul_comm 65536]
      show dv out + (c + x + y) % 65536 * 65536 ^ n + (c + x + y) / 65536 * (65536 ^ n * 65536) = _
      rw [h1, Int.add_assoc, ← Int.add_mul, key, Int.add_mul, Int.add_mul]
      omega
    · rw [if_neg (by rw [decide_eq_true_iff]; omega)]
      obtain rfl : n = 16 := by omega
      refine ⟨_, rfl, hl, hd, hc0, hc1, ?_⟩
      rw [dv_append, hl, hv, List.take_of_length_le (by omega), List.take_of_length_le (by omega), va, vb]
  · intro o hq
    cases o with
    | rt r => exact hq.elim
    | dn s =>
      obtain ⟨hl, hd, hc0, hc1, hv⟩ := hq
      obtain ⟨r, hr, h1, h2⟩ := Made_spec (l := s.2.2 ++ [s.2.1]) (hd.app hc0 (by omega)) (by simp [hl])
      refine ⟨r, ?_, fun h => ?_, fun h => ?_⟩
      · show grd _ _ = _
        rw [grd_pos (by simp [hl]), hr]; rfl
      · obtain ⟨p, q⟩ := h1 (by rw [hv]; omega)
        exact ⟨p, by omega⟩
      · exact h2 (by rw [hv]; omega)
theorem refAdd_eq (a b : api_Wide) : narrowsref01_Add a b = some (wide_Add a b) := by
  obtain ⟨r, hr, h1, h2⟩ := refAdd_spec a b
  obtain ⟨g1, g2⟩ := wide_Add_spec a b
  rw [hr]
  by_cases h : V a + V b < B256
  · obtain ⟨p, q⟩ := h1 h
    obtain ⟨p', q'⟩ := g1 h
    have := V_inj (q.trans q'.symm)
    rw [show r = (r.1, r.2) from rfl, show wide_Add a b = ((wide_Add a b).1, (wide_Add a b).2) from rfl, p, p', this]
  · rw [h2 (by omega), g2 (by omega)]
theorem refCmp_spec (a b : api_Wide) : ∃ r, narrowsref01_Cmp a b = some r ∧ r = (if V a < V b then -1 else if V b < V a then 1 else 0) := by
  unfold narrowsref01_Cmp
  have la := Digits_len a; have lb := Digits_len b
  have da := Digits_dig a; have db := Digits_dig b
  have va := Digits_dv a; have vb := Digits_dv b
  generalize narrowsref01_Digits a = A at *
  generalize narrowsref01_Digits b = B at *
  refine loopW_bind (fun k i => ∃ n : Nat, i = (n : Int) - 1 ∧ n ≤ 16 ∧ k = n ∧ A.drop n = B.drop n)
    (fun o => match o with | .dn s => A = B | .rt r => (r = -1 ∧ V a < V b) ∨ (r = 1 ∧ V b < V a)) 16 ⟨16, rfl, by omega, by omega, by rw [List.drop_of_length_le (by omega), List.drop_of_length_le (by omega)]⟩ ?_ ?_
  · rintro k i ⟨n, rfl, hn, rfl, hd⟩
    cases k with
    | zero =>
      rw [if_neg (by rw [decide_eq_true_iff]; omega)]
      exact ⟨_, rfl, by simpa using hd⟩
    | succ n =>
      rw [if_pos (decide_eq_true (by omega)), show ((n + 1 : Nat) : Int) - 1 = (n : Int) by omega]
      have hx := List.getElem?_eq_getElem (l := A) (i := n) (by omega)
      have hy := List.getElem?_eq_getElem (l := B) (i := n) (by omega)
      generalize A[n] = x at hx
      generalize B[n] = y at hy
      rw [at_nat, hx, Option.bind_some, at_nat, hy, Option.bind_some, Option.bind_some, Option.bind_some]
      by_cases h1 : x < y
      · rw [if_pos (decide_eq_true h1)]
        refine ⟨_, rfl, .inl ⟨rfl, ?_⟩⟩
        have := dv_less da db (by omega) hx hy hd h1
        omega
      · rw [if_neg (by rw [decide_eq_true_iff]; exact h1)]
        by_cases h2 : x > y
        · rw [if_pos (decide_eq_true h2)]
          refine ⟨_, rfl, .inr ⟨rfl, ?_⟩⟩
          have := dv_less db da (by omega) hy hx hd.symm h2
          omega
        · rw [if_neg (by rw [decide_eq_true_iff]; exact h2), wrap64 (by omega) (by omega)]
          refine ⟨_, rfl, n, by omega, n, by omega, by omega, rfl, ?_⟩
          rw [drop_cons hx, drop_cons hy, hd, show x = y by omega]
  · intro o hq
    cases o with
    | dn s =>
      refine ⟨_, rfl, ?_⟩
      have hq' : A = B := hq
      rw [hq'] at va
      rw [if_neg (by omega), if_neg (by omega)]
    | rt r =>
      refine ⟨_, rfl, ?_⟩
      rcases hq with ⟨rfl, h⟩ | ⟨rfl, h⟩
      · rw [if_pos h]
      · rw [if_neg (by omega), if_pos h]
theorem refSub_spec (a b : api_Wide) : ∃ r, narrowsref01_Sub a b = some r ∧ (V b ≤ V a → r.2 = true ∧ V r.1 = V a - V b) ∧ (V a < V b → r = (W0, false)) := by
  unfold narrowsref01_Sub
  obtain ⟨z, hz, hz'⟩ := refCmp_spec a b
  have la := Digits_len a; have lb := Digits_len b
  have da := Digits_dig a; have db := Digits_dig b
  have va := Digits_dv a; have vb := Digits_dv b
  generalize narrowsref01_Digits a = A at *
  generalize narrowsref01_Digits b = B at *
  rw [hz, Option.bind_some]
  by_cases hlt : V a < V b
  · rw [if_pos hlt] at hz'
    rw [hz', if_pos (by decide)]
    exact ⟨_, rfl, fun h => absurd h (by omega), fun _ => rfl⟩
  have hz0 : 0 ≤ z := by rw [hz', if_neg hlt]; split <;> decide
  rw [if_neg (by rw [decide_eq_true_iff]; omega)]
  refine loopW_bind (fun k s => ∃ n : Nat, s.1 = n ∧ n ≤ 16 ∧ k = 16 - n ∧ s.2.2.length = n ∧ Dig s.2.2 ∧ 0 ≤ s.2.1 ∧ s.2.1 ≤ 1 ∧ dv s.2.2 + dv (B.take n) = dv (A.take n) + s.2.1 * 65536 ^ n)
    (fun o => match o with | .dn s => s.2.2.length = 16 ∧ Dig s.2.2 ∧ dv s.2.2 + V b = V a | .rt r => False) 16 ⟨0, rfl, by omega, by omega, rfl, fun x hx => by simp at hx, by decide, by decide, by simp [dv]⟩ ?_ ?_
  · rintro k ⟨i, c, out⟩ ⟨n, rfl, hn, rfl, hl, hd, hc0, hc1, hv⟩
    dsimp only at hl hd hc0 hc1 hv ⊢
    by_cases hlt' : n < 16
    · rw [if_pos (decide_eq_true (by omega))]
      have hx := List.getElem?_eq_getElem (l := A) (i := n) (by omega)
      have hy := List.getElem?_eq_getElem (l := B) (i := n) (by omega)
      generalize A[n] = x at hx
      generalize B[n] = y at hy
      have hxd := da.at hx; have hyd := db.at hy
      have hw : IntKind.i64.wrap ((n : Int) + 1) = ((n + 1 : Nat) : Int) := by rw [wrap64 (by omega) (by omega)]; simp
      rw [at_nat, hx, Option.bind_some, at_nat, hy, Option.bind_some, wrap64 (n := x - y) (by omega) (by omega), wrap64 (n := x - y - c) (by omega) (by omega)]
      unfold thn
      by_cases hneg : x - y - c < 0
      · rw [if_pos (decide_eq_true hneg), wrap64 (n := x - y - c + 65536) (by omega) (by omega), hw]
        dsimp only
        rw [grd_pos (by simp [hl]; omega)]
        refine ⟨_, rfl, 16 - (n + 1), by omega, n + 1, rfl, by omega, rfl, by simp [hl], hd.app (by omega) (by omega), by dsimp only; decide, by dsimp only; decide, ?_⟩
        dsimp only
        rw [dv_append, hl, dv_take A n x hx, dv_take B n y hy, Int.pow_succ, Int.add_mul, Int.sub_mul, Int.sub_mul]
        omega
      · rw [if_neg (by rw [decide_eq_true_iff]; exact hneg), hw]
        dsimp only
        rw [grd_pos (by simp [hl]; omega)]
        refine ⟨_, rfl, 16 - (n + 1), by omega, n + 1, rfl, by omega, rfl, by simp [hl], hd.app (by omega) (by omega), by dsimp only; decide, by dsimp only; decide, ?_⟩
        dsimp only
        rw [dv_append, hl, dv_take A n x hx, dv_take B n y hy, Int.sub_mul, Int.sub_mul]
        omega
    · rw [if_neg (by rw [decide_eq_true_iff]; omega)]
      obtain rfl : n = 16 := by omega
      refine ⟨_, rfl, hl, hd, ?_⟩
      rw [List.take_of_length_le (by omega), List.take_of_length_le (by omega), va, vb] at hv
      have h1 := dv_lt hd
      rw [hl] at h1
      have h5 : (65536 : Int) ^ 16 = B256 := by decide
      rw [h5] at h1 hv
      have : c = 0 := by
        rcases (show c = 0 ∨ c = 1 by omega) with h | h
        · exact h
        · subst h; omega
      subst this
      dsimp only
      omega
  · intro o hq
    cases o with
    | rt r => exact hq.elim
    | dn s =>
      obtain ⟨hl, hd, hv⟩ := hq
      obtain ⟨r, hr, h1, h2⟩ := Made_spec (l := s.2.2) hd (by omega)
      have hva := V_lt a
      refine ⟨r, ?_, fun h => ?_, fun h => absurd h hlt⟩
      · show Option.bind _ _ = _
        rw [hr]; rfl
      · obtain ⟨p, q⟩ := h1 (by omega)
        exact ⟨p, by omega⟩
theorem refSub_eq (a b : api_Wide) : narrowsref01_Sub a b = some (wide_Sub a b) := by
  obtain ⟨r, hr, h1, h2⟩ := refSub_spec a b
  obtain ⟨g1, g2⟩ := wide_Sub_spec a b
  rw [hr]
  by_cases h : V b ≤ V a
  · obtain ⟨p, q⟩ := h1 h
    obtain ⟨p', q'⟩ := g1 h
    have := V_inj (q.trans q'.symm)
    rw [show r = (r.1, r.2) from rfl, show wide_Sub a b = ((wide_Sub a b).1, (wide_Sub a b).2) from rfl, p, p', this]
  · rw [h2 (by omega), g2 (by omega)]
end Go.Sl
