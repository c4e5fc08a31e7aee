/- The plain laws of products and comparisons of wide numbers. -/
import Derived.Test.YteijfoldbinghaaSlEx
import Derived.Test.YteijfoldbinghaaSlWide
set_option linter.unusedVariables false
set_option linter.unusedSimpArgs false
namespace Go.Sl
theorem rshU_32 (x : UInt64) : (rshU x 32).toNat = x.toNat / 4294967296 := by
  have := x.toNat_lt
  unfold rshU
  have e : min (Int.toNat 32) 64 = 32 := rfl
  rw [e, UInt64.toNat_ofNat']
  omega
theorem and_32 (x : UInt64) : (x &&& 4294967295).toNat = x.toNat % 4294967296 := by
  rw [UInt64.toNat_and]
  exact Nat.and_two_pow_sub_one_eq_mod x.toNat 32
theorem Mul64_spec (x y : UInt64) : (bits_Mul64 x y).1.toNat * 18446744073709551616 + (bits_Mul64 x y).2.toNat = x.toNat * y.toNat := by
  unfold bits_Mul64
  have hx := x.toNat_lt; have hy := y.toNat_lt
  simp only [UInt64.toNat_add, UInt64.toNat_mul, rshU_32, and_32]
  generalize hx1 : x.toNat / 4294967296 = x1
  generalize hx0 : x.toNat % 4294967296 = x0
  generalize hy1 : y.toNat / 4294967296 = y1
  generalize hy0 : y.toNat % 4294967296 = y0
  have e1 : x.toNat = x1 * 4294967296 + x0 := by omega
  have e2 : y.toNat = y1 * 4294967296 + y0 := by omega
  have a1 : x1 ≤ 4294967295 := by omega
  have a0 : x0 ≤ 4294967295 := by omega
  have b1 : y1 ≤ 4294967295 := by omega
  have b0 : y0 ≤ 4294967295 := by omega
  have hxy : x.toNat * y.toNat = x1 * y1 * 18446744073709551616 + (x1 * y0 + x0 * y1) * 4294967296 + x0 * y0 := by rw [e1, e2]; grind
  have p11 : x1 * y1 ≤ 4294967295 * 4294967295 := Nat.mul_le_mul a1 b1
  have p10 : x1 * y0 ≤ 4294967295 * 4294967295 := Nat.mul_le_mul a1 b0
  have p01 : x0 * y1 ≤ 4294967295 * 4294967295 := Nat.mul_le_mul a0 b1
  have p00 : x0 * y0 ≤ 4294967295 * 4294967295 := Nat.mul_le_mul a0 b0
  rw [hxy]
  generalize x1 * y1 = p at *
  generalize x1 * y0 = q at *
  generalize x0 * y1 = r at *
  generalize x0 * y0 = s at *
  omega
theorem wide_Mul_spec (a : api_Wide) (n : UInt64) : (V a * n.toNat < B256 → (wide_Mul a n).2 = true ∧ V (wide_Mul a n).1 = V a * n.toNat) ∧ (B256 ≤ V a * n.toNat → wide_Mul a n = (W0, false)) := by
  have m0 := Mul64_spec a.a0 n; have m1 := Mul64_spec a.a1 n; have m2 := Mul64_spec a.a2 n; have m3 := Mul64_spec a.a3 n
  unfold wide_Mul
  have hn := n.toNat_lt
  have k0 := a.a0.toNat_lt; have k1 := a.a1.toNat_lt; have k2 := a.a2.toNat_lt; have k3 := a.a3.toNat_lt
  have hi : ∀ (x h l : Nat), x < 18446744073709551616 → l < 18446744073709551616 → h * 18446744073709551616 + l = x * n.toNat → h ≤ 18446744073709551614 := fun x h l hx hl e => by
    have : x * n.toNat ≤ 18446744073709551615 * 18446744073709551615 := Nat.mul_le_mul (by omega) (by omega)
    omega
  generalize h0 : bits_Mul64 a.a0 n = r0 at *
  generalize h1 : bits_Mul64 a.a1 n = r1 at *
  generalize h2 : bits_Mul64 a.a2 n = r2 at *
  generalize h3 : bits_Mul64 a.a3 n = r3 at *
  have l0 := r0.2.toNat_lt; have l1 := r1.2.toNat_lt; have l2 := r2.2.toNat_lt; have l3 := r3.2.toNat_lt
  have g0 := hi _ _ _ k0 l0 m0; have g1 := hi _ _ _ k1 l1 m1; have g2 := hi _ _ _ k2 l2 m2; have g3 := hi _ _ _ k3 l3 m3
  -- one limb: what comes over
  have one : ∀ (h l o : UInt64), h.toNat ≤ 18446744073709551614 → ∃ s o' : UInt64, (add64 l o 0).1 = s ∧ h + (add64 l o 0).2 = o' ∧ s.toNat + 18446744073709551616 * o'.toNat = l.toNat + o.toNat + 18446744073709551616 * h.toNat := fun h l o hh => by
    have hv := add64_val (x := l) (y := o) (c := 0) (by decide)
    have hl := l.toNat_lt; have ho := o.toNat_lt
    refine ⟨_, _, rfl, rfl, ?_⟩
    have hc : (0 : UInt64).toNat = 0 := rfl
    have hs := (add64 l o 0).1.toNat_lt
    rw [UInt64.toNat_add]
    omega
  obtain ⟨s0, o1, e0, f0, v0⟩ := one r0.1 r0.2 0 g0
  rw [e0, f0]
  obtain ⟨s1, o2, e1, f1, v1⟩ := one r1.1 r1.2 o1 g1
  rw [e1, f1]
  obtain ⟨s2, o3, e2, f2, v2⟩ := one r2.1 r2.2 o2 g2
  rw [e2, f2]
  obtain ⟨s3, o4, e3, f3, v3⟩ := one r3.1 r3.2 o3 g3
  rw [e3, f3]
  have hz : (0 : UInt64).toNat = 0 := rfl
  have hV : V a * n.toNat = a.a0.toNat * n.toNat + 18446744073709551616 * (a.a1.toNat * n.toNat) + 340282366920938463463374607431768211456 * (a.a2.toNat * n.toNat) + 6277101735386680763835789423207666416102355444464034512896 * (a.a3.toNat * n.toNat) := by
    unfold V; grind
  rw [hV, ← m0, ← m1, ← m2, ← m3]
  have t0 := s0.toNat_lt; have t1 := s1.toNat_lt; have t2 := s2.toNat_lt; have t3 := s3.toNat_lt
  have ho4 : (decide (o4 ≠ 0)) = decide (o4.toNat ≠ 0) := by
    rw [Bool.eq_iff_iff, decide_eq_true_iff, decide_eq_true_iff]
    exact not_congr ⟨fun h => by rw [h]; rfl, fun h => UInt64.toNat_inj.1 (by rw [h]; rfl)⟩
  rw [ho4]
  by_cases ho : o4.toNat = 0
  · rw [if_neg (by simp [ho])]
    have hs : V ⟨s0, s1, s2, s3⟩ = s0.toNat + 18446744073709551616 * s1.toNat + 340282366920938463463374607431768211456 * s2.toNat + 6277101735386680763835789423207666416102355444464034512896 * s3.toNat := rfl
    refine ⟨fun hb => ⟨rfl, ?_⟩, fun hb => ?_⟩
    · show V ⟨s0, s1, s2, s3⟩ = _
      rw [hs]; omega
    · unfold B256 at hb; omega
  · rw [if_pos (by simp [ho])]
    refine ⟨fun hb => ?_, fun _ => rfl⟩
    unfold B256 at hb; omega
theorem wide_Cmp_spec (a b : api_Wide) : wide_Cmp a b = some (if V a < V b then -1 else if V b < V a then 1 else 0) := by
  unfold wide_Cmp
  have k0 := a.a0.toNat_lt; have k1 := a.a1.toNat_lt; have k2 := a.a2.toNat_lt; have k3 := a.a3.toNat_lt
  have l0 := b.a0.toNat_lt; have l1 := b.a1.toNat_lt; have l2 := b.a2.toNat_lt; have l3 := b.a3.toNat_lt
  have w3 : IntKind.i64.wrap (3 - 1) = 2 := rfl
  have w2 : IntKind.i64.wrap (2 - 1) = 1 := rfl
  have w1 : IntKind.i64.wrap (1 - 1) = 0 := rfl
  have w0 : IntKind.i64.wrap (0 - 1) = -1 := rfl
  have hV : ∀ x : api_Wide, V x = x.a0.toNat + 18446744073709551616 * x.a1.toNat + 340282366920938463463374607431768211456 * x.a2.toNat + 6277101735386680763835789423207666416102355444464034512896 * x.a3.toNat := fun _ => rfl
  have ne : ∀ {x y : UInt64}, ¬ x.toNat < y.toNat → ¬ y.toNat < x.toNat → x = y := fun h h' => UInt64.toNat_inj.1 (by omega)
  rw [loopW_step]
  simp only [ge_iff_le, Int.reduceLE, decide_true, if_true, at_, api_Wide.list, Int.toNat_natCast, Option.bind_some, List.getElem?_cons_zero, UInt64.lt_iff_toNat_lt, gt_iff_lt,
    show (3 : Int).toNat = 3 from rfl, List.getElem?_cons_succ]
  by_cases c3 : a.a3.toNat < b.a3.toNat
  · have h : V a < V b := by rw [hV, hV]; omega
    simp [c3, Lo.on, h]
  by_cases d3 : b.a3.toNat < a.a3.toNat
  · have h : V b < V a := by rw [hV, hV]; omega
    have h' : ¬ V a < V b := by omega
    simp [c3, d3, Lo.on, h, h']
  simp only [c3, d3, decide_false, Bool.false_eq_true, if_false, Option.bind_some, w3]
  rw [loopW_step]
  simp only [Int.reduceLE, decide_true, if_true, Option.bind_some, List.getElem?_cons_zero, show (2 : Int).toNat = 2 from rfl, List.getElem?_cons_succ]
  by_cases c2 : a.a2.toNat < b.a2.toNat
  · have h : V a < V b := by rw [hV, hV]; omega
    simp [c2, Lo.on, h]
  by_cases d2 : b.a2.toNat < a.a2.toNat
  · have h : V b < V a := by rw [hV, hV]; omega
    have h' : ¬ V a < V b := by omega
    simp [c2, d2, Lo.on, h, h']
  simp only [c2, d2, decide_false, Bool.false_eq_true, if_false, Option.bind_some, w2]
  rw [loopW_step]
  simp only [Int.reduceLE, decide_true, if_true, Option.bind_some, List.getElem?_cons_zero, show (1 : Int).toNat = 1 from rfl, List.getElem?_cons_succ]
  by_cases c1 : a.a1.toNat < b.a1.toNat
  · have h : V a < V b := by rw [hV, hV]; omega
    simp [c1, Lo.on, h]
  by_cases d1 : b.a1.toNat < a.a1.toNat
  · have h : V b < V a := by rw [hV, hV]; omega
    have h' : ¬ V a < V b := by omega
    simp [c1, d1, Lo.on, h, h']
  simp only [c1, d1, decide_false, Bool.false_eq_true, if_false, Option.bind_some, w1]
  rw [loopW_step]
  simp only [Int.reduceLE, decide_true, if_true, Option.bind_some, List.getElem?_cons_zero, show (0 : Int).toNat = 0 from rfl, Int.le_refl]
  by_cases c0 : a.a0.toNat < b.a0.toNat
  · have h : V a < V b := by rw [hV, hV]; omega
    simp [c0, Lo.on, h]
  by_cases d0 : b.a0.toNat < a.a0.toNat
  · have h : V b < V a := by rw [hV, hV]; omega
    have h' : ¬ V a < V b := by omega
    simp [c0, d0, Lo.on, h, h']
  simp only [c0, d0, decide_false, Bool.false_eq_true, if_false, Option.bind_some, w0]
  rw [loopW_step]
  have h : ¬ V b < V a := by rw [hV, hV]; omega
  have h' : ¬ V a < V b := by rw [hV, hV]; omega
  simp [Lo.on, h, h']
end Go.Sl
