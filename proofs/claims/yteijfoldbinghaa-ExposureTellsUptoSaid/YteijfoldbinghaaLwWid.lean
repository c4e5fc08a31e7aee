/- Comparisons; the widest row. -/
import Derived.Test.YteijfoldbinghaaSlEt
import Derived.Test.YteijfoldbinghaaSlWide
set_option linter.unusedVariables false
set_option linter.unusedSimpArgs false
namespace Go.Sl
theorem wide_Cmp_spec (a b : api_Wide) : wide_Cmp a b = some (if V a < V b then -1 else if V b < V a then 1 else 0) := by
  unfold wide_Cmp
  have k0 := a.a0.toNat_lt; have k1 := a.a1.toNat_lt; have k2 := a.a2.toNat_lt; have k3 := a.a3.toNat_lt
  have l0 := b.a0.toNat_lt; have l1 := b.a1.toNat_lt; have l2 := b.a2.toNat_lt; have l3 := b.a3.toNat_lt
  have w3 : IntKind.i64.wrap (3 - 1) = 2 := rfl
  have w2 : IntKind.i64.wrap (2 - 1) = 1 := rfl
  have w1 : IntKind.i64.wrap (1 - 1) = 0 := rfl
  have w0 : IntKind.i64.wrap (0 - 1) = -1 := rfl
  have hV : ∀ x : api_Wide, V x = x.a0.toNat + 18446744073709551616 * x.a1.toNat + 340282366920938463463374607431768211456 * x.a2.toNat + 6277101735386680763835789423207666416102355444464034512896 * x.a3.toNat := fun _ => rfl
  have ne : ∀ {x y : UInt64}, ¬ x.toNat < y.toNat → ¬ y.toNat < x.toNat → x = y := fun h h' => UInt64.toNat_inj.1 (by omega)
  rw [loopW_step]
  simp only [ge_iff_le, Int.reduceLE, decide_true, if_true, at_, api_Wide.list, Int.toNat_natCast, Option.bind_some, List.getElem?_cons_zero, UInt64.lt_iff_toNat_lt, gt_iff_lt,
    show (3 : Int).toNat = 3 from rfl, List.getElem?_cons_succ]
  by_cases c3 : a.a3.toNat < b.a3.toNat
  · have h : V a < V b := by rw [hV, hV]; omega
    simp [c3, Lo.on, h]
  by_cases d3 : b.a3.toNat < a.a3.toNat
  · have h : V b < V a := by rw [hV, hV]; omega
    have h' : ¬ V a < V b := by omega
    simp [c3, d3, Lo.on, h, h']
  simp only [c3, d3, decide_false, Bool.false_eq_true, if_false, Option.bind_some, w3]
  rw [loopW_step]
  simp only [Int.reduceLE, decide_true, if_true, Option.bind_some, List.getElem?_cons_zero, show (2 : Int).toNat = 2 from rfl, List.getElem?_cons_succ]
  by_cases c2 : a.a2.toNat < b.a2.toNat
  · have h : V a < V b := by rw [hV, hV]; omega
    simp [c2, Lo.on, h]
  by_cases d2 : b.a2.toNat < a.a2.toNat
  · have h : V b < V a := by rw [hV, hV]; omega
    have h' : ¬ V a < V b := by omega
    simp [c2, d2, Lo.on, h, h']
  simp only [c2, d2, decide_false, Bool.false_eq_true, if_false, Option.bind_some, w2]
  rw [loopW_step]
  simp only [Int.reduceLE, decide_true, if_true, Option.bind_some, List.getElem?_cons_zero, show (1 : Int).toNat = 1 from rfl, List.getElem?_cons_succ]
  by_cases c1 : a.a1.toNat < b.a1.toNat
  · have h : V a < V b := by rw [hV, hV]; omega
    simp [c1, Lo.on, h]
  by_cases d1 : b.a1.toNat < a.a1.toNat
  · have h : V b < V a := by rw [hV, hV]; omega
    have h' : ¬ V a < V b := by omega
    simp [c1, d1, Lo.on, h, h']
  simp only [c1, d1, decide_false, Bool.false_eq_true, if_false, Option.bind_some, w1]
  rw [loopW_step]
  simp only [Int.reduceLE, decide_true, if_true, Option.bind_some, List.getElem?_cons_zero, show (0 : Int).toNat = 0 from rfl, Int.le_refl]
  by_cases c0 : a.a0.toNat < b.a0.toNat
  · have h : V a < V b := by rw [hV, hV]; omega
    simp [c0, Lo.on, h]
  by_cases d0 : b.a0.toNat < a.a0.toNat
  · have h : V b < V a := by rw [hV, hV]; omega
    have h' : ¬ V a < V b := by omega
    simp [c0, d0, Lo.on, h, h']
  simp only [c0, d0, decide_false, Bool.false_eq_true, if_false, Option.bind_some, w0]
  rw [loopW_step]
  have h : ¬ V b < V a := by rw [hV, hV]; omega
  have h' : ¬ V a < V b := by rw [hV, hV]; omega
  simp [Lo.on, h, h']
theorem Cmp_gt {a b : api_Wide} : wide_Cmp a b = some (if V a < V b then -1 else if V b < V a then 1 else 0) := wide_Cmp_spec a b
def out (p : A2_api_Wide) (m : Int) : api_Wide := if m = 0 then p.a0 else p.a1
theorem at_out {m : Int} (h : m = 0 ∨ m = 1) (p : A2_api_Wide) : at_ (A2_api_Wide.list p) m = some (out p m) := by
  rcases h with rfl | rfl <;> rfl
theorem known_tt {m : Int} (h : m = 0 ∨ m = 1) : exposure_known m = true := by
  rcases h with rfl | rfl <;> (unfold exposure_known thn; rfl)
theorem known_ff {m : Int} (h : ¬ (m = 0 ∨ m = 1)) : exposure_known m = false := by
  unfold exposure_known thn
  by_cases h0 : m ≥ 0
  · rw [if_pos (decide_eq_true h0)]
    simp; omega
  · rw [if_neg (by simpa using h0)]
/-- The first of the greatest. -/
def Fm (l : List exposure_Row) (m : Int) (n b : Nat) : Prop := ∃ x, l[b]? = some x ∧ b < n ∧ ∀ (j : Nat) (y : exposure_Row), j < n → l[j]? = some y → V (out y.Out m) ≤ V (out x.Out m) ∧ (j < b → V (out y.Out m) < V (out x.Out m))
theorem Widest_spec (l : List exposure_Row) {m : Int} (hm : m = 0 ∨ m = 1) (hl : l ≠ []) (hlen : l.length ≤ 1048576) : ∃ r, exposure_Widest l m = some r ∧ ∃ b x, Fm l m l.length b ∧ l[b]? = some x ∧ r = x.Router := by
  have hpos : 0 < l.length := List.length_pos_iff.2 hl
  have hy : (if (decide (((l.length : Int)) = 0)) = true then true else (!((exposure_known m)))) = false := by
    rw [if_neg (by rw [decide_eq_true_iff]; omega), known_tt hm]; rfl
  unfold exposure_Widest thn
  rw [hy]
  dsimp only
  rw [if_neg (by simp)]
  have h0 := List.getElem?_eq_getElem (l := l) (i := 0) hpos
  generalize l[0] = x0 at h0
  have hk : okS l.length (some 1) none none := by
    unfold okS; simp; omega
  rw [show at_ l 0 = some x0 from h0, Option.bind_some, grd_pos hk]
  have hs : (slc l (1 : Int).toNat l.length).length = l.length - 1 := by simp [slc]
  refine loopR_bind (fun i s => ∃ b, l[b]? = some s ∧ Fm l m (i + 1) b) (fun o => match o with | .dn s => ∃ b, l[b]? = some s ∧ Fm l m l.length b | .rt r => False) ⟨0, h0, x0, h0, by omega, ?_⟩ ?_ ?_ ?_
  · intro j y hj hjy
    obtain rfl : j = 0 := by omega
    rw [h0] at hjy
    cases hjy
    exact ⟨by omega, fun h => by omega⟩
  · rintro i x s hx ⟨b, hb, z, hz, hbn, hall⟩
    rw [hb] at hz; cases hz
    have hx' : l[i + 1]? = some x := by
      have : (slc l (1 : Int).toNat l.length)[i]? = l[1 + i]? := by simp [slc, Nat.add_comm]
      rw [this] at hx
      rwa [Nat.add_comm] at hx
    rw [at_out hm, Option.bind_some, at_out hm, Option.bind_some, Cmp_gt, Option.bind_some]
    by_cases hlt : V (out s.Out m) < V (out x.Out m)
    · rw [if_pos (by rw [decide_eq_true_iff, if_neg (by omega), if_pos hlt]; decide), Option.bind_some]
      refine ⟨_, rfl, i + 1, hx', x, hx', by omega, fun j y hj hjy => ?_⟩
      by_cases hji : j = i + 1
      · subst hji
        rw [hx'] at hjy; cases hjy
        exact ⟨Nat.le_refl _, fun h => by omega⟩
      · have := hall j y (by omega) hjy
        exact ⟨by omega, fun _ => by omega⟩
    · have hng : ¬ ((if V (out x.Out m) < V (out s.Out m) then -1 else if V (out s.Out m) < V (out x.Out m) then 1 else 0 : Int) > 0) := by
        split
        · decide
        · (try rw [if_neg hlt]); decide
      rw [if_neg (by rw [decide_eq_true_iff]; exact hng), Option.bind_some]
      refine ⟨_, rfl, b, hb, s, hb, by omega, fun j y hj hjy => ?_⟩
      by_cases hji : j = i + 1
      · subst hji
        rw [hx'] at hjy; cases hjy
        exact ⟨by omega, fun h => by omega⟩
      · exact hall j y (by omega) hjy
  · rintro s ⟨b, hb, hf⟩
    rw [hs] at hf
    exact ⟨b, hb, by rwa [Nat.sub_add_cancel (by omega)] at hf⟩
  · rintro (s | r) hq
    · obtain ⟨b, hb, hf⟩ := hq
      exact ⟨_, rfl, b, s, hf, hb, rfl⟩
    · exact hq.elim
end Go.Sl
