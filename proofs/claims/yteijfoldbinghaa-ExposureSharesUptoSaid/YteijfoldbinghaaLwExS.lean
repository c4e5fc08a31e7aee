/- The plain law of narrowslaw38: the widest row and the share. -/
import Derived.Test.YteijfoldbinghaaLwMul2
set_option linter.unusedVariables false
set_option linter.unusedSimpArgs false
namespace Go.Sl
theorem Cmp_gt {a b : api_Wide} : wide_Cmp a b = some (if V a < V b then -1 else if V b < V a then 1 else 0) := wide_Cmp_spec a b
def out (p : A2_api_Wide) (m : Int) : api_Wide := if m = 0 then p.a0 else p.a1
theorem at_out {m : Int} (h : m = 0 ∨ m = 1) (p : A2_api_Wide) : at_ (A2_api_Wide.list p) m = some (out p m) := by
  rcases h with rfl | rfl <;> rfl
theorem known_tt {m : Int} (h : m = 0 ∨ m = 1) : exposure_known m = true := by
  rcases h with rfl | rfl <;> (unfold exposure_known thn; rfl)
theorem known_ff {m : Int} (h : ¬ (m = 0 ∨ m = 1)) : exposure_known m = false := by
  unfold exposure_known thn
  by_cases h0 : m ≥ 0
  · rw [if_pos (decide_eq_true h0)]
    simp; omega
  · rw [if_neg (by simpa using h0)]
/-- The first of the greatest. -/
def Fm (l : List exposure_Row) (m : Int) (n b : Nat) : Prop := ∃ x, l[b]? = some x ∧ b < n ∧ ∀ (j : Nat) (y : exposure_Row), j < n → l[j]? = some y → V (out y.Out m) ≤ V (out x.Out m) ∧ (j < b → V (out y.Out m) < V (out x.Out m))
theorem Widest_spec (l : List exposure_Row) {m : Int} (hm : m = 0 ∨ m = 1) (hl : l ≠ []) (hlen : l.length ≤ 1048576) : ∃ r, exposure_Widest l m = some r ∧ ∃ b x, Fm l m l.length b ∧ l[b]? = some x ∧ r = x.Router := by
  have hpos : 0 < l.length := List.length_pos_iff.2 hl
  have hy : (if (decide (((l.length : Int)) = 0)) = true then true else (!((exposure_known m)))) = false := by
    rw [if_neg (by rw [decide_eq_true_iff]; omega), known_tt hm]; rfl
  unfold exposure_Widest thn
  rw [hy]
  dsimp only
  rw [if_neg (by simp)]
  have h0 := List.getElem?_eq_getElem (l := l) (i := 0) hpos
  generalize l[0] = x0 at h0
  have hk : okS l.length (some 1) none none := by
    unfold okS; simp; omega
  rw [show at_ l 0 = some x0 from h0, Option.bind_some, grd_pos hk]
  have hs : (slc l (1 : Int).toNat l.length).length = l.length - 1 := by simp [slc]
  refine loopR_bind (fun i s => ∃ b, l[b]? = some s ∧ Fm l m (i + 1) b) (fun o => match o with | .dn s => ∃ b, l[b]? = some s ∧ Fm l m l.length b | .rt r => False) ⟨0, h0, x0, h0, by omega, ?_⟩ ?_ ?_ ?_
  · intro j y hj hjy
    obtain rfl : j = 0 := by omega
    rw [h0] at hjy
    cases hjy
    exact ⟨by omega, fun h => by omega⟩
  · rintro i x s hx ⟨b, hb, z, hz, hbn, hall⟩
    rw [hb] at hz; cases hz
    have hx' : l[i + 1]? = some x := by
      have : (slc l (1 : Int).toNat l.length)[i]? = l[1 + i]? := by simp [slc, Nat.add_comm]
      rw [this] at hx
      rwa [Nat.add_comm] at hx
    rw [at_out hm, Option.bind_some, at_out hm, Option.bind_some, Cmp_gt, Option.bind_some]
    by_cases hlt : V (out s.Out m) < V (out x.Out m)
    · rw [if_pos (by rw [decide_eq_true_iff, if_neg (by omega), if_pos hlt]; decide), Option.bind_some]
      refine ⟨_, rfl, i + 1, hx', x, hx', by omega, fun j y hj hjy => ?_⟩
      by_cases hji : j = i + 1
      · subst hji
        rw [hx'] at hjy; cases hjy
        exact ⟨Nat.le_refl _, fun h => by omega⟩
      · have := hall j y (by omega) hjy
        exact ⟨by omega, fun _ => by omega⟩
    · have hng : ¬ ((if V (out x.Out m) < V (out s.Out m) then -1 else if V (out s.Out m) < V (out x.Out m) then 1 else 0 : Int) > 0) := by
        split
        · decide
        · (try rw [if_neg hlt]); decide
      rw [if_neg (by rw [decide_eq_true_iff]; exact hng), Option.bind_some]
      refine ⟨_, rfl, b, hb, s, hb, by omega, fun j y hj hjy => ?_⟩
      by_cases hji : j = i + 1
      · subst hji
        rw [hx'] at hjy; cases hjy
        exact ⟨by omega, fun h => by omega⟩
      · exact hall j y (by omega) hjy
  · rintro s ⟨b, hb, hf⟩
    rw [hs] at hf
    exact ⟨b, hb, by rwa [Nat.sub_add_cancel (by omega)] at hf⟩
  · rintro (s | r) hq
    · obtain ⟨b, hb, hf⟩ := hq
      exact ⟨_, rfl, b, s, hf, hb, rfl⟩
    · exact hq.elim
theorem Cmp_le {a b : api_Wide} : (if V a < V b then -1 else if V b < V a then 1 else 0 : Int) ≤ 0 ↔ V a ≤ V b := by
  split
  · simp; omega
  · split
    · simp; omega
    · simp; omega
/-- The share: the largest part in a hundred that fits. -/
theorem Share_loop {S P : api_Wide} : ∃ K : Nat, (loopW (β := Int) (fun (s23 : Int × Int) => if (decide (s23.1 < 101)) = true then (Option.bind (Option.bind (if ((wide_Mul S (Ui s23.1)).2) = true then (Option.bind (wide_Cmp ((wide_Mul S (Ui s23.1)).1) P) fun r41 => some (decide (r41 ≤ 0))) else (some false)) fun (y37 : Bool) => if y37 = true then (some s23.1) else (some s23.2)) fun (y33 : Int) => some (.nx ((IntKind.i64.wrap (s23.1 + 1), y33)))) else (some (.br (s23.1, s23.2)))) (0, 0)) = some (.dn (101, (K : Int))) ∧ K ≤ 100 ∧ V S * K ≤ V P ∧ ∀ k, K < k → k ≤ 100 → V P < V S * k := by
  have hone : ∀ k : Nat, k < 101 → (Option.bind (if ((wide_Mul S (Ui (k : Int))).2) = true then (Option.bind (wide_Cmp ((wide_Mul S (Ui (k : Int))).1) P) fun r41 => some (decide (r41 ≤ 0))) else (some false)) fun (y37 : Bool) => some y37) = some (decide (V S * k ≤ V P)) := by
    intro k hk
    have hu := Ui_nat (x := (k : Int)) (by omega) (by omega)
    obtain ⟨g1, g2⟩ := wide_Mul_spec S (Ui (k : Int))
    rw [hu, Int.toNat_natCast] at g1 g2
    by_cases h : V S * k < B256
    · rw [if_pos (g1 h).1, Cmp_gt, Option.bind_some, Option.bind_some, (g1 h).2]
      congr 1
      rw [Bool.eq_iff_iff, decide_eq_true_iff, decide_eq_true_iff, ← (g1 h).2, Cmp_le]
    · rw [g2 (by omega), if_neg (by simp), Option.bind_some]
      have := V_lt P
      rw [decide_eq_false (by omega)]
  have key : ∃ o, loopW (β := Int) (fun (s23 : Int × Int) => if (decide (s23.1 < 101)) = true then (Option.bind (Option.bind (if ((wide_Mul S (Ui s23.1)).2) = true then (Option.bind (wide_Cmp ((wide_Mul S (Ui s23.1)).1) P) fun r41 => some (decide (r41 ≤ 0))) else (some false)) fun (y37 : Bool) => if y37 = true then (some s23.1) else (some s23.2)) fun (y33 : Int) => some (.nx ((IntKind.i64.wrap (s23.1 + 1), y33)))) else (some (.br (s23.1, s23.2)))) (0, 0) = some o ∧ (fun o => ∃ K : Nat, o = .dn (101, (K : Int)) ∧ K ≤ 100 ∧ V S * K ≤ V P ∧ ∀ j, K < j → j ≤ 100 → V P < V S * j) o := by
    refine loopW_by (fun n s => ∃ k K : Nat, s = ((k : Int), (K : Int)) ∧ k ≤ 101 ∧ n = 101 - k ∧ K ≤ 100 ∧ V S * K ≤ V P ∧ ∀ j, K < j → j < k → V P < V S * j)
      (fun o => ∃ K : Nat, o = .dn (101, (K : Int)) ∧ K ≤ 100 ∧ V S * K ≤ V P ∧ ∀ j, K < j → j ≤ 100 → V P < V S * j) ?_ 101 (0, 0) ⟨0, 0, rfl, by omega, rfl, by omega, by omega, fun j h h' => by omega⟩
    rintro n s ⟨k, K, rfl, hk, rfl, hK, hle, hall⟩
    dsimp only
    by_cases hlt : k < 101
    · rw [if_pos (decide_eq_true (by omega))]
      have h1 := hone k hlt
      have hw : IntKind.i64.wrap ((k : Int) + 1) = ((k + 1 : Nat) : Int) := by rw [wrap64 (by omega) (by omega)]; simp
      rw [hw]
      have h2 : (if ((wide_Mul S (Ui (k : Int))).2) = true then (Option.bind (wide_Cmp ((wide_Mul S (Ui (k : Int))).1) P) fun r41 => some (decide (r41 ≤ 0))) else (some false)) = some (decide (V S * k ≤ V P)) := by
        simpa using h1
      rw [h2, Option.bind_some]
      by_cases hc : V S * k ≤ V P
      · rw [if_pos (decide_eq_true hc), Option.bind_some]
        exact ⟨_, rfl, 101 - (k + 1), by omega, k + 1, k, rfl, by omega, rfl, by omega, hc, fun j h h' => by omega⟩
      · rw [if_neg (by simpa using hc), Option.bind_some]
        refine ⟨_, rfl, 101 - (k + 1), by omega, k + 1, K, rfl, by omega, rfl, hK, hle, fun j h h' => ?_⟩
        by_cases hj : j = k
        · subst hj; omega
        · exact hall j h (by omega)
    · rw [if_neg (by rw [decide_eq_true_iff]; omega)]
      obtain rfl : k = 101 := by omega
      exact ⟨_, rfl, K, rfl, hK, hle, fun j h h' => hall j h (by omega)⟩
  obtain ⟨o, ho, K, rfl, h⟩ := key
  exact ⟨K, ho, h⟩

theorem alive38 : narrowslaw38_alive = some true := by
  have hg : (escrow_Genesis 0 5).Vault = purse_Book.z := by unfold escrow_Genesis; rfl
  have h1 : exposure_Of (escrow_Genesis 0 5) ([] : List api_Event) = some [⟨2, A2_api_Wide.z, A2_api_Wide.z, 0⟩, ⟨3, A2_api_Wide.z, A2_api_Wide.z, 0⟩] := by
    unfold exposure_Of scan_Deals
    simp only [loopR, Option.bind_some, Lo.on, hg]
    rfl
  obtain ⟨w, hw, b, x, ⟨x', hb', hbn, hall⟩, hb, rfl⟩ := Widest_spec [⟨2, A2_api_Wide.z, A2_api_Wide.z, 0⟩, ⟨3, A2_api_Wide.z, A2_api_Wide.z, 0⟩] (m := 0) (Or.inl rfl) (by simp) (by simp)
  have hx : x.Router = 2 := by
    rw [hb] at hb'; cases hb'
    have h0 := hall 0 ⟨2, A2_api_Wide.z, A2_api_Wide.z, 0⟩ (by simp) rfl
    rcases b with _ | _ | b
    · cases hb; rfl
    · have := h0.2 (by omega)
      cases hb
      exact absurd this (Nat.lt_irrefl _)
    · simp at hb
  unfold narrowslaw38_alive
  rw [h1, Option.bind_some, hw]
  simp [at_, hx]
theorem conv {α : Type} (X : Option α) (w : α) (h : ∃ v, X = some v ∧ v = w) : X = some w := by
  obtain ⟨v, hv, rfl⟩ := h; exact hv
theorem Fm_uniq {l : List exposure_Row} {m : Int} {i b : Nat} {xi xb : exposure_Row} (hi : l[i]? = some xi) (hb : l[b]? = some xb) (hF : Fm l m l.length b) :
    (∀ (j : Nat) (y : exposure_Row), l[j]? = some y → V (out y.Out m) < V (out xi.Out m) ∨ (V (out y.Out m) = V (out xi.Out m) ∧ j ≥ i)) ↔ i = b := by
  obtain ⟨x, hx, hbn, hall⟩ := hF
  rw [hb] at hx; cases hx
  have hin := (List.getElem?_eq_some_iff.1 hi).1
  constructor
  · intro h
    have h1 := h b xb hb
    have h2 := hall i xi hin hi
    rcases Nat.lt_trichotomy i b with hl | hl | hl
    · have := h2.2 hl; omega
    · exact hl
    · omega
  · rintro rfl j y hy
    rw [hi] at hb; cases hb
    have hjn := (List.getElem?_eq_some_iff.1 hy).1
    have := hall j y hjn hy
    by_cases hji : j < i
    · exact Or.inl (this.2 hji)
    · omega
set_option maxHeartbeats 1000000 in
theorem ExposureShares_true (l : List exposure_Row) (m : Int) (r : exposure_Row) (hlen : l.length ≤ 1048576) : ∃ b, narrowslaw38_ExposureShares l m r = some b ∧ b = true := by
  have hal : narrowslaw38_alive = some true := alive38
  unfold narrowslaw38_ExposureShares
  rw [hal, Option.bind_some, if_neg (by decide)]
  by_cases hm : m = 0 ∨ m = 1
  · have h1 : (if (decide (m = 0)) = true then true else (decide (m = 1))) = true := by
      rcases hm with rfl | rfl <;> rfl
    have h2 : (if (decide (m ≠ 0)) = true then (decide (m ≠ 1)) else false) = false := by
      rcases hm with rfl | rfl <;> rfl
    unfold thn
    rw [h1]
    dsimp only
    rw [if_pos rfl]
    -- who is the widest
    have hW : ∃ w, exposure_Widest l m = some w ∧ ((l = [] ∧ w = -1) ∨ ∃ b x, Fm l m l.length b ∧ l[b]? = some x ∧ w = x.Router) := by
      by_cases hl : l = []
      · subst hl
        refine ⟨-1, ?_, Or.inl ⟨rfl, rfl⟩⟩
        unfold exposure_Widest thn; rfl
      · obtain ⟨w, hw, h⟩ := Widest_spec l hm hl hlen
        exact ⟨w, hw, Or.inr h⟩
    obtain ⟨w, hw, hwc⟩ := hW
    rw [hw]
    have key : ∀ (g : Int → Option Bool), (∃ b, g w = some b ∧ b = true) → ∀ X : Option Int, X = some w → ∃ b, X.bind g = some b ∧ b = true := fun g h X e => by rw [e]; exact h
    refine key _ ?_ _ ?_
    · rw [Option.bind_some, if_neg (by simp)]
      unfold exposure_Share
      rw [known_tt hm, if_neg (by decide), at_out hm, at_out hm]
      simp only [Option.bind_some]
      simp only [refAdd_eq, refMul_eq, Option.bind_some]
      generalize hS : wide_Add (out r.Vault m) (out r.Out m) = S
      generalize hP : wide_Mul (out r.Out m) 100 = P
      rw [thn, h2]
      obtain ⟨S, s2⟩ := S
      obtain ⟨P, p2⟩ := P
      cases s2 with
      | false => simp [thn]
      | true =>
        cases p2 with
        | false => simp [thn]
        | true =>
          by_cases hz : S = W0
          · simp [thn, hz]
          · have hz' : decide (S = (⟨0, 0, 0, 0⟩ : api_Wide)) = false := decide_eq_false hz
            simp only [thn, Bool.not_true, Bool.false_eq_true, if_false, hz']
            obtain ⟨K, hK, hK1, hK2, hK3⟩ := Share_loop (S := S) (P := P)
            rw [hK, Option.bind_some, Lo.on]
            simp only [Option.bind_some]
            have hk0 : (if (0 : Int) > (K : Int) then 0 else (K : Int)) = K := if_neg (by omega)
            have hw1 : IntKind.i64.wrap ((K : Int) + 1) = ((K + 1 : Nat) : Int) := by rw [wrap64 (by omega) (by omega)]; simp
            simp only [hk0, hw1, refMul_eq, Option.bind_some, refCmp_eq]
            have hu0 := Ui_nat (x := (K : Int)) (by omega) (by omega)
            have hu1 := Ui_nat (x := ((K + 1 : Nat) : Int)) (by omega) (by omega)
            rw [Int.toNat_natCast] at hu0 hu1
            obtain ⟨g1, g2⟩ := wide_Mul_spec S (Ui (K : Int))
            obtain ⟨k1, k2⟩ := wide_Mul_spec S (Ui ((K + 1 : Nat) : Int))
            rw [hu0] at g1 g2
            rw [hu1] at k1 k2
            have hPl := V_lt P
            obtain ⟨f1, f2⟩ := g1 (by omega)
            rw [if_pos (decide_eq_true (by omega)), if_pos (decide_eq_true (by omega)), if_pos f1, Cmp_gt, Option.bind_some, if_pos (by rw [decide_eq_true_iff, Cmp_le, f2]; exact hK2)]
            by_cases ho : V S * (K + 1) < B256
            · obtain ⟨e1, e2⟩ := k1 ho
              have hbig : V P < V S * (K + 1) := by
                by_cases hk100 : K = 100
                · subst hk100
                  have hS0 : V S ≠ 0 := fun h => hz (V_eq_zero h)
                  -- a part is never more than the whole
                  obtain ⟨a1, a2⟩ := wide_Add_spec (out r.Vault m) (out r.Out m)
                  obtain ⟨b1, b2⟩ := wide_Mul_spec (out r.Out m) 100
                  have c1 : V (out r.Vault m) + V (out r.Out m) < B256 := Nat.lt_of_not_le fun h => by
                    have := a2 h; rw [hS] at this; cases this
                  have c2 : V (out r.Out m) * (100 : UInt64).toNat < B256 := Nat.lt_of_not_le fun h => by
                    have := b2 h; rw [hP] at this; cases this
                  have d1 := (a1 c1).2; have d2 := (b1 c2).2
                  rw [hS] at d1; rw [hP] at d2
                  have e100 : (100 : UInt64).toNat = 100 := rfl
                  rw [e100] at d2
                  dsimp only at d1 d2
                  omega
                · exact hK3 (K + 1) (by omega) (by omega)
              rw [if_neg (by rw [e1]; decide), Cmp_gt, Option.bind_some, e2, if_neg (by omega), if_pos hbig]
              exact ⟨_, rfl, rfl⟩
            · rw [k2 (by omega)]
              exact ⟨_, rfl, rfl⟩
    · -- the law's own loops
      refine conv _ _ ?_
      refine loopW_bind (fun n s => ∃ i : Nat, s.1 = i ∧ i ≤ l.length ∧ n = l.length - i ∧ ((l = [] ∧ s.2 = w) ∨ ∃ b x, Fm l m l.length b ∧ l[b]? = some x ∧ w = x.Router ∧ (b < i → s.2 = w)))
        (fun o => match o with | .dn s => s.2 = w | .rt r => False) l.length ⟨0, rfl, by omega, by omega, ?_⟩ ?_ ?_
      · rcases hwc with ⟨h, h'⟩ | ⟨b, x, h, h', h''⟩
        · exact Or.inl ⟨h, h'.symm⟩
        · exact Or.inr ⟨b, x, h, h', h'', fun hh => by omega⟩
      · rintro n ⟨i0, want⟩ ⟨i, rfl, hi, rfl, hc⟩
        dsimp only at hc ⊢
        by_cases hlt : i < l.length
        · rw [if_pos (decide_eq_true (by omega))]
          rcases hc with ⟨h, _⟩ | ⟨b, x, hF, hb, hwx, hbi⟩
          · subst h; simp at hlt
          have hxi := List.getElem?_eq_getElem (l := l) (i := i) hlt
          generalize l[i] = xi at hxi
          have hw1 : IntKind.i64.wrap ((i : Int) + 1) = ((i + 1 : Nat) : Int) := by rw [wrap64 (by omega) (by omega)]; simp
          -- the inner loop
          have hin : ∀ (g : Lo (Int × Bool) (Lo (Int × Int) Int) → Option (Ct (Int × Int) Int)), True := fun _ => trivial
          have step : ∀ (g : Int → Option (Ct (Int × Int) Int)) (G : Ct (Int × Int) Int → Prop) (X : Option Int) (v : Int), X = some v → (∃ c, g v = some c ∧ G c) → ∃ c, X.bind g = some c ∧ G c := fun g G X v e h => by rw [e]; exact h
          refine step _ _ _ (if i = b then w else want) ?_ ?_
          · refine conv _ _ ?_
            refine loopW_bind (fun n s => ∃ j : Nat, s.1 = j ∧ j ≤ l.length ∧ n = l.length - j ∧ (s.2 = true ↔ ∀ (k : Nat) (y : exposure_Row), k < j → l[k]? = some y → V (out y.Out m) < V (out xi.Out m) ∨ (V (out y.Out m) = V (out xi.Out m) ∧ k ≥ i)))
              (fun o => match o with | .dn s => (s.2 = true ↔ i = b) | .rt r => False) l.length ⟨0, rfl, by omega, by omega, by simp⟩ ?_ ?_
            · rintro n ⟨j0, ok⟩ ⟨j, rfl, hj, rfl, hc⟩
              dsimp only at hc ⊢
              by_cases hjl : j < l.length
              · rw [if_pos (decide_eq_true (by omega))]
                have hy := List.getElem?_eq_getElem (l := l) (i := j) hjl
                generalize l[j] = y at hy
                have hw2 : IntKind.i64.wrap ((j : Int) + 1) = ((j + 1 : Nat) : Int) := by rw [wrap64 (by omega) (by omega)]; simp
                rw [at_nat, hy, Option.bind_some, at_out hm, Option.bind_some, at_nat, hxi, Option.bind_some, at_out hm, Option.bind_some, refCmp_eq, Cmp_gt, Option.bind_some, hw2]
                have hnew : (∀ (k : Nat) (z : exposure_Row), k < j + 1 → l[k]? = some z → V (out z.Out m) < V (out xi.Out m) ∨ (V (out z.Out m) = V (out xi.Out m) ∧ k ≥ i)) ↔ ((∀ (k : Nat) (z : exposure_Row), k < j → l[k]? = some z → V (out z.Out m) < V (out xi.Out m) ∨ (V (out z.Out m) = V (out xi.Out m) ∧ k ≥ i)) ∧ (V (out y.Out m) < V (out xi.Out m) ∨ (V (out y.Out m) = V (out xi.Out m) ∧ j ≥ i))) := by
                  constructor
                  · intro h
                    exact ⟨fun k z hk hz => h k z (by omega) hz, h j y (by omega) hy⟩
                  · rintro ⟨h, h'⟩ k z hk hz
                    by_cases hkj : k = j
                    · subst hkj; rw [hy] at hz; cases hz; exact h'
                    · exact h k z (by omega) hz
                have hval : ∃ v : Bool, (if ok = true then (if (decide ((if V (out y.Out m) < V (out xi.Out m) then -1 else if V (out xi.Out m) < V (out y.Out m) then 1 else 0 : Int) < 0)) = true then (some true) else (if (decide ((if V (out y.Out m) < V (out xi.Out m) then -1 else if V (out xi.Out m) < V (out y.Out m) then 1 else 0 : Int) = 0)) = true then (some (decide ((j : Int) ≥ (i : Int)))) else (some false))) else (some false)) = some v ∧ (v = true ↔ (ok = true ∧ (V (out y.Out m) < V (out xi.Out m) ∨ (V (out y.Out m) = V (out xi.Out m) ∧ j ≥ i)))) := by
                  cases ok with
                  | false => exact ⟨false, rfl, by simp⟩
                  | true =>
                    by_cases c1 : V (out y.Out m) < V (out xi.Out m)
                    · exact ⟨true, by simp [c1], by simp [c1]⟩
                    · by_cases c2 : V (out xi.Out m) < V (out y.Out m)
                      · exact ⟨false, by simp [c1, c2], by simp; omega⟩
                      · exact ⟨decide ((j : Int) ≥ (i : Int)), by simp [c1, c2], by simp; omega⟩
                obtain ⟨v, hv, hvi⟩ := hval
                rw [hv, Option.bind_some]
                refine ⟨_, rfl, l.length - (j + 1), by omega, j + 1, rfl, by omega, rfl, ?_⟩
                dsimp only
                rw [hvi, hnew, hc]
              · rw [if_neg (by rw [decide_eq_true_iff]; omega)]
                obtain rfl : j = l.length := by omega
                refine ⟨_, rfl, ?_⟩
                dsimp only
                rw [hc, ← Fm_uniq hxi hb hF]
                exact ⟨fun h k y hy => h k y (List.getElem?_eq_some_iff.1 hy).1 hy, fun h k y _ hy => h k y hy⟩
            · rintro (s | r) hq
              · rw [Lo.on]
                by_cases hib : i = b
                · rw [if_pos (hq.2 hib), at_nat, hxi, Option.bind_some, if_pos hib, hwx]
                  subst hib
                  rw [hb] at hxi; cases hxi
                  exact ⟨_, rfl, rfl⟩
                · rw [if_neg (fun h => hib (hq.1 h)), if_neg hib]
                  exact ⟨_, rfl, rfl⟩
              · exact hq.elim
          · refine ⟨_, rfl, l.length - (i + 1), by omega, i + 1, hw1, by omega, rfl, Or.inr ⟨b, x, hF, hb, hwx, fun h => ?_⟩⟩
            dsimp only
            split
            · rfl
            · exact hbi (by omega)
        · rw [if_neg (by rw [decide_eq_true_iff]; omega)]
          obtain rfl : i = l.length := by omega
          refine ⟨_, rfl, ?_⟩
          rcases hc with ⟨_, h⟩ | ⟨b, x, hF, hb, hwx, hbi⟩
          · exact h
          · exact hbi (List.getElem?_eq_some_iff.1 hb).1
      · rintro (s | r) hq
        · exact ⟨_, rfl, hq⟩
        · exact hq.elim
  · have h1 : (if (decide (m = 0)) = true then true else (decide (m = 1))) = false := by
      rw [if_neg (by simp; omega)]; simp; omega
    have h2 : (if (decide (m ≠ 0)) = true then (decide (m ≠ 1)) else false) = true := by
      rw [if_pos (by simp; omega)]; simp; omega
    have hw : exposure_Widest l m = some (-1) := by
      unfold exposure_Widest thn
      rw [known_ff hm]
      simp
    have hs : exposure_Share r m = some 0 := by
      unfold exposure_Share
      rw [known_ff hm]; rfl
    unfold thn
    rw [h1, hw, hs, h2]
    simp
end Go.Sl
