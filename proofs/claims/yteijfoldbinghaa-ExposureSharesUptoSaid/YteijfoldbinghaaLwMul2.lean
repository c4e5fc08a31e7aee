/- The plain reference's product. -/
import Derived.Test.YteijfoldbinghaaLwMul
set_option linter.unusedVariables false
set_option linter.unusedSimpArgs false
namespace Go.Sl
theorem dv_set : ∀ {l : List Int} {n : Nat} {x y : Int}, l[n]? = some x → dv (l.set n y) = dv l + (y - x) * 65536 ^ n
  | [], n, x, y, h => by simp at h
  | d :: l, 0, x, y, h => by
    simp at h; subst h
    simp only [List.set_cons_zero, dv]; omega
  | d :: l, n + 1, x, y, h => by
    have := dv_set (l := l) (n := n) (x := x) (y := y) (by simpa using h)
    simp only [List.set_cons_succ, dv, this, Int.pow_succ]
    grind
theorem Dig.set {l : List Int} (h : Dig l) {n : Nat} {y : Int} (h0 : 0 ≤ y) (h1 : y < 65536) : Dig (l.set n y) := fun z hz => by
  rcases List.mem_or_eq_of_mem_set hz with hz | rfl
  · exact h z hz
  · exact ⟨h0, h1⟩
theorem dv_top {l : List Int} (hd : Dig l) {n : Nat} {x : Int} (hx : l[n]? = some x) (hlt : dv l < 65536 ^ n) : x = 0 := by
  have h1 := (List.getElem?_eq_some_iff.1 hx).1
  have h2 := dv_take_le hd (n + 1)
  have h3 := dv_nn (hd.take n)
  rw [dv_take l n x hx] at h2
  have := hd.at hx
  rcases Int.lt_or_eq_of_le this.1 with h | h
  · have h4 : (1 : Int) * 65536 ^ n ≤ x * 65536 ^ n := Int.mul_le_mul_of_nonneg_right (by omega) (Int.pow_nonneg (by omega))
    omega
  · exact h.symm
theorem low4 (n : UInt64) : dv ((narrowsref01_Digits ⟨n, 0, 0, 0⟩).take 4) = n.toNat := by
  have la := Digits_len ⟨n, 0, 0, 0⟩
  have da := Digits_dig ⟨n, 0, 0, 0⟩
  have va := Digits_dv ⟨n, 0, 0, 0⟩
  have e : V ⟨n, 0, 0, 0⟩ = n.toNat := by unfold V; simp
  rw [e] at va
  have h := dv_split _ 4 (by rw [la]; omega : 4 ≤ (narrowsref01_Digits ⟨n, 0, 0, 0⟩).length)
  have h1 := dv_nn (da.take 4)
  have h2 := dv_nn (l := (narrowsref01_Digits ⟨n, 0, 0, 0⟩).drop 4) fun x hx => da x (List.mem_of_mem_drop hx)
  have hn := n.toNat_lt
  rw [va] at h
  omega
theorem refMul_spec (a : api_Wide) (n : UInt64) : ∃ r, narrowsref01_Mul a n = some r ∧ (V a * n.toNat < B256 → r.2 = true ∧ V r.1 = V a * n.toNat) ∧ (B256 ≤ V a * n.toNat → r = (W0, false)) := by
  unfold narrowsref01_Mul
  have la := Digits_len a; have lb := Digits_len ⟨n, 0, 0, 0⟩
  have da := Digits_dig a; have db := Digits_dig ⟨n, 0, 0, 0⟩
  have va := Digits_dv a; have vb := low4 n
  have hn := n.toNat_lt
  generalize narrowsref01_Digits a = A at *
  generalize narrowsref01_Digits ⟨n, 0, 0, 0⟩ = B at *
  have hP : ∀ k : Nat, (0 : Int) < 65536 ^ k := fun k => Int.pow_pos (by omega)
  refine loopW_bind (fun k s => ∃ i : Nat, s.1 = i ∧ i ≤ 16 ∧ k = 16 - i ∧ s.2.length = 21 ∧ Dig s.2 ∧ dv s.2 = dv (A.take i) * n.toNat)
    (fun o => match o with | .dn s => s.2.length = 21 ∧ Dig s.2 ∧ dv s.2 = V a * n.toNat | .rt r => False) 16 ⟨0, rfl, by omega, by omega, by simp, ?_, by simp [dv]⟩ ?_ ?_
  · intro x hx
    have hx := List.eq_of_mem_replicate hx
    omega
  · rintro k ⟨i0, out⟩ ⟨i, rfl, hi, rfl, hl, hd, hv⟩
    dsimp only at hl hd hv ⊢
    by_cases hlt : i < 16
    · rw [if_pos (decide_eq_true (by omega))]
      have hx := List.getElem?_eq_getElem (l := A) (i := i) (by omega)
      generalize A[i] = x at hx
      have hxd := da.at hx
      have ha := dv_lt (da.take i)
      rw [List.length_take, Nat.min_eq_left (by omega)] at ha
      have ha0 := dv_nn (da.take i)
      -- what lies beyond is nothing
      have hz : dv out < 65536 ^ (i + 4) := by
        rw [hv, Int.pow_add]
        have h1 : dv (A.take i) * (n.toNat : Int) ≤ dv (A.take i) * 18446744073709551616 := Int.mul_le_mul_of_nonneg_left (by omega) ha0
        have h2 : dv (A.take i) * 18446744073709551616 < 65536 ^ i * 18446744073709551616 := Int.mul_lt_mul_of_pos_right ha (by omega)
        have : (65536 : Int) ^ 4 = 18446744073709551616 := by decide
        rw [this]; omega
      refine loopW_bind (fun k s => ∃ j : Nat, s.1 = j ∧ j ≤ 5 ∧ k = 5 - j ∧ s.2.2.length = 21 ∧ Dig s.2.2 ∧ 0 ≤ s.2.1 ∧ s.2.1 < 65536 ∧ (j ≤ 4 → s.2.2[i + 4]? = some 0 ∧ dv s.2.2 + s.2.1 * 65536 ^ (i + j) = dv out + x * dv (B.take j) * 65536 ^ i) ∧ (j = 5 → dv s.2.2 = dv out + x * n.toNat * 65536 ^ i))
        (fun o => match o with | .dn s => s.2.2.length = 21 ∧ Dig s.2.2 ∧ dv s.2.2 = dv out + x * n.toNat * 65536 ^ i | .rt r => False) 5 ⟨0, rfl, by omega, by omega, hl, hd, Int.le_refl 0, (by omega : (0 : Int) < 65536), fun _ => ⟨?_, by simp [dv]⟩, fun h => by omega⟩ ?_ ?_
      · have hy := List.getElem?_eq_getElem (l := out) (i := i + 4) (by omega)
        rw [hy, dv_top hd hy hz]
      · rintro k ⟨j0, c, o⟩ ⟨j, rfl, hj, rfl, hol, hod, hc0, hc1, h4, h5⟩
        dsimp only at hol hod hc0 hc1 h4 h5 ⊢
        by_cases hjl : j < 5
        · rw [if_pos (decide_eq_true (by omega))]
          obtain ⟨ho4, hov⟩ := h4 (by omega)
          have hij : IntKind.i64.wrap ((i : Int) + (j : Int)) = ((i + j : Nat) : Int) := by rw [wrap64 (by omega) (by omega)]; simp
          have hw : IntKind.i64.wrap ((j : Int) + 1) = ((j + 1 : Nat) : Int) := by rw [wrap64 (by omega) (by omega)]; simp
          have hoo := List.getElem?_eq_getElem (l := o) (i := i + j) (by omega)
          generalize o[i + j] = w at hoo
          have hwd := hod.at hoo
          -- the digit of the factor
          have hy : ∃ y : Int, (if decide ((j : Int) < 4) = true then (at_ B (j : Int)).bind fun (x33 : Int) => some x33 else some 0) = some y ∧ 0 ≤ y ∧ y < 65536 ∧ (j = 4 → y = 0) ∧ (j < 4 → B[j]? = some y) := by
            by_cases hj4 : j < 4
            · have hb := List.getElem?_eq_getElem (l := B) (i := j) (by omega)
              have hbd := db.at hb
              rw [if_pos (decide_eq_true (by omega)), at_nat, hb]
              exact ⟨_, rfl, hbd.1, hbd.2, fun h => by omega, fun _ => rfl⟩
            · rw [if_neg (by rw [decide_eq_true_iff]; omega)]
              exact ⟨0, rfl, by decide, by decide, fun _ => rfl, fun h => absurd h hj4⟩
          obtain ⟨y, hy, hy0, hy1, hy4, hyb⟩ := hy
          rw [hy, Option.bind_some, hij, hw, at_nat, hoo, Option.bind_some, at_nat, hx, Option.bind_some, Option.bind_some]
          have hxy : 0 ≤ x * y := Int.mul_nonneg hxd.1 hy0
          have hxy2 : x * y ≤ 65535 * 65535 := Int.mul_le_mul (by omega) (by omega) hy0 (by omega)
          rw [wrap64 (n := c + w) (by omega) (by omega), wrap64 (n := x * y) (by omega) (by omega), wrap64 (n := c + w + x * y) (by omega) (by omega)]
          have e1 : Int.tmod (c + w + x * y) 65536 = (c + w + x * y) % 65536 := Int.tmod_eq_emod_of_nonneg (by omega)
          have e2 : Int.tdiv (c + w + x * y) 65536 = (c + w + x * y) / 65536 := Int.tdiv_eq_ediv_of_nonneg (by omega)
          rw [e1, e2, wrap64 (n := (c + w + x * y) / 65536) (by omega) (by omega), Int.toNat_natCast]
          have key : (c + w + x * y) % 65536 + 65536 * ((c + w + x * y) / 65536) = c + w + x * y := by omega
          have hm0 : 0 ≤ (c + w + x * y) % 65536 := by omega
          have hm1 : (c + w + x * y) % 65536 < 65536 := by omega
          have hq0 : 0 ≤ (c + w + x * y) / 65536 := by omega
          have hq1 : (c + w + x * y) / 65536 < 65536 := by omega
          have hset := dv_set (y := (c + w + x * y) % 65536) hoo
          refine ⟨_, rfl, 5 - (j + 1), by omega, j + 1, rfl, by omega, rfl, by simp [hol], hod.set hm0 hm1, hq0, hq1, fun h => ⟨?_, ?_⟩, fun h => ?_⟩
          · dsimp only
            rw [List.getElem?_set_ne (by omega)]
            exact ho4
          · dsimp only
            rw [hset, dv_take B j y (hyb (by omega))]
            generalize (c + w + x * y) / 65536 = q at *
            generalize (c + w + x * y) % 65536 = m at *
            have : (65536 : Int) ^ (i + (j + 1)) = 65536 ^ (i + j) * 65536 := by rw [← Nat.add_assoc, Int.pow_succ]
            rw [this]
            have : (65536 : Int) ^ (i + j) = 65536 ^ i * 65536 ^ j := Int.pow_add ..
            rw [this] at hov ⊢
            grind
          · dsimp only
            obtain rfl : j = 4 := by omega
            obtain rfl := hy4 rfl
            rw [hoo] at ho4
            obtain rfl : w = 0 := by simpa using ho4
            rw [hset]
            have hm : (c + 0 + x * 0) % 65536 = c := by omega
            rw [hm, ← vb]
            have : (c - 0) * 65536 ^ (i + 4) = c * 65536 ^ (i + 4) := by rw [Int.sub_zero]
            rw [this, hov]
        · rw [if_neg (by rw [decide_eq_true_iff]; omega)]
          exact ⟨_, rfl, hol, hod, h5 (by omega)⟩
      · rintro (s | r) hq
        · obtain ⟨h1, h2, h3⟩ := hq
          have hw : IntKind.i64.wrap ((i : Int) + 1) = ((i + 1 : Nat) : Int) := by rw [wrap64 (by omega) (by omega)]; simp
          rw [Lo.on, hw]
          refine ⟨_, rfl, 16 - (i + 1), by omega, i + 1, rfl, by omega, rfl, h1, h2, ?_⟩
          dsimp only
          rw [h3, hv, dv_take A i x hx]
          grind
        · exact hq.elim
    · rw [if_neg (by rw [decide_eq_true_iff]; omega)]
      obtain rfl : i = 16 := by omega
      refine ⟨_, rfl, hl, hd, ?_⟩
      rw [hv, List.take_of_length_le (by omega), va]
  · intro o hq
    cases o with
    | rt r => exact hq.elim
    | dn s =>
      obtain ⟨hl, hd, hv⟩ := hq
      obtain ⟨r, hr, h1, h2⟩ := Made_spec (l := s.2) hd (by rw [hl]; omega)
      rw [Lo.on, hr, Option.bind_some]
      have e : dv s.2 = ((V a * n.toNat : Nat) : Int) := by rw [hv]; simp
      refine ⟨_, rfl, fun h => ?_, fun h => h2 (by rw [e]; exact_mod_cast h)⟩
      obtain ⟨g1, g2⟩ := h1 (by rw [e]; exact_mod_cast h)
      exact ⟨g1, by rw [e] at g2; exact_mod_cast g2⟩
theorem refMul_eq (a : api_Wide) (n : UInt64) : narrowsref01_Mul a n = some (wide_Mul a n) := by
  obtain ⟨r, hr, h1, h2⟩ := refMul_spec a n
  obtain ⟨g1, g2⟩ := wide_Mul_spec a n
  rw [hr]
  by_cases h : V a * n.toNat < B256
  · exact congrArg some (Prod.ext (V_inj ((h1 h).2.trans (g1 h).2.symm)) ((h1 h).1.trans (g1 h).1.symm))
  · rw [h2 (by omega), g2 (by omega)]
theorem refCmp_eq (a b : api_Wide) : narrowsref01_Cmp a b = wide_Cmp a b := by
  obtain ⟨r, hr, e⟩ := refCmp_spec a b
  rw [hr, e, wide_Cmp_spec]
end Go.Sl
