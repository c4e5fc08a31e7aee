/- The plain law of narrowslaw36: each side's events stand as they stood. -/
import Derived.Test.YteijfoldbinghaaSlCl
import Derived.Test.YteijfoldbinghaaLwSrt6
set_option linter.unusedVariables false
set_option linter.unusedSimpArgs false
namespace Go.Sl
noncomputable def stp (side skew : Int) (e : api_Event) : clock_Stamp := ⟨clock_Ticks e.Time side skew, side, e⟩
theorem stamps_spec (l : List api_Event) (side skew : Int) (hl : l.length ≤ 1048576) : clock_stamps l side skew = some (l.map (stp side skew)) := by
  unfold clock_stamps
  refine bnd_conv ?_
  refine loopR_bind (fun i s => s = (l.take i).map (stp side skew)) (fun o => match o with | .dn s => s = l.map (stp side skew) | .rt r => False) (by simp) ?_ (fun s h => by rw [List.take_length] at h; exact h) ?_
  · rintro i x s hx rfl
    have hi := (List.getElem?_eq_some_iff.1 hx).1
    rw [grd_pos (by simp; omega)]
    refine ⟨_, rfl, ?_⟩
    dsimp only
    rw [List.take_add_one, hx]; simp [stp]
  · rintro (s | r) hq
    · exact ⟨_, rfl, hq⟩
    · exact hq.elim
theorem Merge_spec (s r : List api_Event) (skew : Int) (hs : s.length ≤ 1048576) (hr : r.length ≤ 1048576) : ∃ R, clock_Merge s r skew = some R ∧ SK tk (s.map (stp 0 skew) ++ r.map (stp 1 skew)) R ∧ Srt tk R := by
  unfold clock_Merge slices_Concat_i75_n2 slices_SortStableFunc_i77_m_f78
  rw [stamps_spec s 0 skew (by omega), Option.bind_some, stamps_spec r 1 skew (by omega), Option.bind_some, List.length_map, List.length_map, wrN (n := 0 + (s.length : Int)) (by omega) (by omega), if_neg (by rw [decide_eq_true_iff]; omega), wrN (by omega) (by omega), if_neg (by rw [decide_eq_true_iff]; omega)]
  have hg : slices_Grow_i128_nil (0 + (s.length : Int) + (r.length : Int)) = some [] := by
    unfold slices_Grow_i128_nil
    rw [if_neg (by rw [decide_eq_true_iff]; omega), wrN (by omega) (by omega)]
    by_cases h : 0 + (s.length : Int) + (r.length : Int) - 0 > 0
    · rw [if_pos (decide_eq_true h), grd_pos (by omega)]; rfl
    · rw [if_neg (by rw [decide_eq_true_iff]; exact h)]; rfl
  rw [hg, Option.bind_some, grd_pos (by simp; omega), grd_pos (by simp; omega), Option.bind_some, List.nil_append]
  obtain ⟨R, h1, h2, h3⟩ := stable_spec (s.map (stp 0 skew) ++ r.map (stp 1 skew)) (by simp; omega)
  rw [h1, Option.bind_some, Option.bind_some]
  exact ⟨R, rfl, h2, h3⟩
theorem ticks_mono {t u side skew : Int} (h : t ≤ u) : clock_Ticks t side skew ≤ clock_Ticks u side skew := by
  unfold clock_Ticks thn
  dsimp only
  have c : ∀ t : Int, 0 ≤ (if 1099511627776 < (if 0 > t then 0 else t) then 1099511627776 else (if 0 > t then 0 else t)) ∧ (if 1099511627776 < (if 0 > t then 0 else t) then 1099511627776 else (if 0 > t then 0 else t)) ≤ 1099511627776 := fun t => by
    split
    · omega
    · split <;> omega
  have m : (if 1099511627776 < (if 0 > t then 0 else t) then 1099511627776 else (if 0 > t then 0 else t)) ≤ (if 1099511627776 < (if 0 > u then 0 else u) then 1099511627776 else (if 0 > u then 0 else u)) := by
    split <;> split <;> (try split) <;> (try split) <;> omega
  have k : -100 ≤ (if 100 < (if (-100) > skew then (-100) else skew) then 100 else (if (-100) > skew then (-100) else skew)) ∧ (if 100 < (if (-100) > skew then (-100) else skew) then 100 else (if (-100) > skew then (-100) else skew)) ≤ 100 := by
    split
    · omega
    · split <;> omega
  have ct := c t; have cu := c u
  generalize (if 1099511627776 < (if 0 > t then 0 else t) then 1099511627776 else (if 0 > t then 0 else t)) = x at *
  generalize (if 1099511627776 < (if 0 > u then 0 else u) then 1099511627776 else (if 0 > u then 0 else u)) = y at *
  generalize (if 100 < (if (-100) > skew then (-100) else skew) then 100 else (if (-100) > skew then (-100) else skew)) = z at *
  rw [wrap64 (n := x - 1000) (by omega) (by omega), wrap64 (n := y - 1000) (by omega) (by omega), wrap64 (n := x - 1000 - z) (by omega) (by omega), wrap64 (n := y - 1000 - z) (by omega) (by omega)]
  split <;> omega
theorem wr1n {i : Nat} (h : i < 1099511627776) : IntKind.i64.wrap ((i : Int) + 1) = ((i + 1 : Nat) : Int) := by
  rw [wrap64 (by omega) (by omega)]; rfl
def Up (l : List api_Event) : Prop := ∀ (k : Nat) (x y : api_Event), l[k]? = some x → l[k + 1]? = some y → x.Time ≤ y.Time
theorem Up.srt {l : List api_Event} (h : Up l) (side skew : Int) : Srt tk (l.map (stp side skew)) := by
  induction l with
  | nil => exact List.Pairwise.nil
  | cons x l ih =>
    have ht : Up l := fun k a b ha hb => h (k + 1) a b (by simpa using ha) (by simpa using hb)
    rw [List.map_cons]
    refine List.pairwise_cons.2 ⟨fun v hv => ?_, ih ht⟩
    cases l with
    | nil => simp at hv
    | cons y l =>
      have h0 := h 0 x y rfl rfl
      have h1 : tk (stp side skew x) ≤ tk (stp side skew y) := ticks_mono h0
      rw [List.map_cons] at hv
      rcases List.mem_cons.1 hv with rfl | hv
      · exact h1
      · have := (List.pairwise_cons.1 (ih ht)).1 v (by simpa using hv)
        exact Int.le_trans h1 this
theorem rise_loop {β : Type} (l : List api_Event) (b0 : Bool) (hl : l.length ≤ 1048576) : ∃ o : Int × Bool, loopW (β := β) (fun (s2 : Int × Bool) => if (decide (s2.1 < ((l.length : Int)))) = true then (Option.bind (if s2.2 = true then (Option.bind (at_ l s2.1) fun (x19 : api_Event) => Option.bind (at_ l (IntKind.i64.wrap (s2.1 - 1))) fun (x26 : api_Event) => some (decide (x19.Time ≥ x26.Time))) else (some false)) fun (y12 : Bool) => some (.nx ((IntKind.i64.wrap (s2.1 + 1), y12)))) else (some (.br (s2.1, s2.2)))) (1, b0) = some (.dn o) ∧ (o.2 = true → b0 = true ∧ Up l) := by
  have key : ∃ o, loopW (β := β) (fun (s2 : Int × Bool) => if (decide (s2.1 < ((l.length : Int)))) = true then (Option.bind (if s2.2 = true then (Option.bind (at_ l s2.1) fun (x19 : api_Event) => Option.bind (at_ l (IntKind.i64.wrap (s2.1 - 1))) fun (x26 : api_Event) => some (decide (x19.Time ≥ x26.Time))) else (some false)) fun (y12 : Bool) => some (.nx ((IntKind.i64.wrap (s2.1 + 1), y12)))) else (some (.br (s2.1, s2.2)))) (1, b0) = some o ∧ ∃ z : Int × Bool, o = .dn z ∧ (z.2 = true → b0 = true ∧ Up l) := by
    refine loopW_by (fun (k : Nat) (s : Int × Bool) => ∃ i : Nat, s.1 = i ∧ 1 ≤ i ∧ k = l.length - i ∧ (s.2 = true → b0 = true ∧ ∀ (k : Nat) (x y : api_Event), k + 1 < i → l[k]? = some x → l[k + 1]? = some y → x.Time ≤ y.Time)) (fun o => ∃ z : Int × Bool, o = .dn z ∧ (z.2 = true → b0 = true ∧ Up l)) ?_ (l.length - 1) _ ⟨1, rfl, by omega, rfl, fun h => ⟨h, fun k x y hk => by omega⟩⟩
    rintro k ⟨i0, b⟩ ⟨i, rfl, h1, rfl, hb⟩
    dsimp only at hb ⊢
    by_cases hlt : i < l.length
    · rw [if_pos (decide_eq_true (by omega)), wr1n (i := i) (by omega)]
      cases b with
      | false =>
        rw [if_neg (by decide), Option.bind_some]
        exact ⟨_, rfl, l.length - (i + 1), by omega, i + 1, rfl, by omega, rfl, fun h => by simp at h⟩
      | true =>
        have hx := List.getElem?_eq_getElem hlt
        have hy := List.getElem?_eq_getElem (l := l) (i := i - 1) (by omega)
        generalize l[i] = x at hx
        generalize l[i - 1] = y at hy
        have w1 : IntKind.i64.wrap ((i : Int) - 1) = ((i - 1 : Nat) : Int) := by rw [wrN (by omega) (by omega)]; omega
        rw [if_pos rfl, at_nat, hx, Option.bind_some, w1, at_nat, hy, Option.bind_some, Option.bind_some]
        refine ⟨_, rfl, l.length - (i + 1), by omega, i + 1, rfl, by omega, rfl, fun h => ?_⟩
        have h := of_decide_eq_true h
        obtain ⟨g1, g2⟩ := hb rfl
        refine ⟨g1, fun k a c hk ha hc => ?_⟩
        by_cases hki : k + 1 = i
        · have e : k = i - 1 := by omega
          rw [hki, hx] at hc; rw [e, hy] at ha
          cases hc; cases ha
          exact h
        · exact g2 k a c (by omega) ha hc
    · rw [if_neg (by rw [decide_eq_true_iff]; omega)]
      refine ⟨_, rfl, _, rfl, fun h => ?_⟩
      obtain ⟨g1, g2⟩ := hb h
      exact ⟨g1, fun k x y hx hy => g2 k x y (by have := (List.getElem?_eq_some_iff.1 hy).1; omega) hx hy⟩
  obtain ⟨o, ho, z, rfl, h⟩ := key
  exact ⟨z, ho, h⟩
theorem alive36 : narrowslaw36_alive = true := by
  unfold narrowslaw36_alive clock_Ticks thn
  decide
def sd (n : Int) (x : clock_Stamp) : Bool := decide (x.Side = n)
theorem side_at {R : List clock_Stamp} {n : Int} {l : List api_Event} {skew : Int} (h : R.filter (sd n) = l.map (stp n skew)) {i : Nat} {x : clock_Stamp} (hx : R[i]? = some x) (hn : x.Side = n) : l[((R.take i).filter (sd n)).length]? = some x.Event := by
  have e : R = R.take i ++ x :: R.drop (i + 1) := by
    conv => lhs; rw [← List.take_append_drop i R, drop_c hx]
  have h2 : (R.filter (sd n))[((R.take i).filter (sd n)).length]? = some x := by
    conv => lhs; rw [show R.filter (sd n) = (R.take i).filter (sd n) ++ x :: (R.drop (i + 1)).filter (sd n) from by
      conv => lhs; rw [e]
      rw [List.filter_append, List.filter_cons_of_pos (by simp [sd, hn])]]
    simp
  rw [h, List.getElem?_map] at h2
  cases hz : l[((R.take i).filter (sd n)).length]? with
  | none => rw [hz] at h2; simp at h2
  | some e =>
    rw [hz] at h2
    simp at h2
    rw [← h2]; rfl
theorem ct_step {R : List clock_Stamp} {n : Int} {i : Nat} {x : clock_Stamp} (hx : R[i]? = some x) : ((R.take (i + 1)).filter (sd n)).length = ((R.take i).filter (sd n)).length + if x.Side = n then 1 else 0 := by
  rw [List.take_add_one, hx, List.filter_append, List.length_append]
  congr 1
  by_cases h : x.Side = n <;> simp [sd, h]
set_option maxHeartbeats 1000000 in
theorem ClockSides_true (s r : List api_Event) (skew : Int) (hs : s.length ≤ 1048576) (hr : r.length ≤ 1048576) : ∃ b, narrowslaw36_ClockSides s r skew = some b ∧ b = true := by
  unfold narrowslaw36_ClockSides
  rw [alive36, if_neg (by decide)]
  obtain ⟨o1, h1, k1⟩ := rise_loop (β := Bool) s true hs
  rw [h1, Option.bind_some, Lo.on]
  obtain ⟨o2, h2, k2⟩ := rise_loop (β := Bool) r o1.2 hr
  rw [h2, Option.bind_some, Lo.on]
  obtain ⟨R, hR, hSK, hSrt⟩ := Merge_spec s r skew hs hr
  have hRl : R.length = s.length + r.length := by rw [← hSK.len]; simp
  rw [hR, Option.bind_some, hRl, wrN (n := (s.length : Int) + (r.length : Int)) (by omega) (by omega)]
  obtain ⟨i2, b2⟩ := o2
  unfold thn
  dsimp only at k2 ⊢
  cases b2 with
  | false => exact ⟨_, rfl, rfl⟩
  | true =>
    obtain ⟨g1, upR⟩ := k2 rfl
    obtain ⟨_, upS⟩ := k1 g1
    have hlen : decide (((s.length + r.length : Nat) : Int) ≠ (s.length : Int) + (r.length : Int)) = false := by simp
    rw [hlen]
    rw [if_neg (by simp)]
    -- each side's own
    have f0 : R.filter (sd 0) = s.map (stp 0 skew) := by
      have h3 := SK.filter hSK (sd 0)
      have e : (s.map (stp 0 skew) ++ r.map (stp 1 skew)).filter (sd 0) = s.map (stp 0 skew) := by
        rw [List.filter_append, List.filter_eq_self.2 (fun x hx => by obtain ⟨y, _, rfl⟩ := List.mem_map.1 hx; simp [sd, stp]), List.filter_eq_nil_iff.2 (fun x hx => by obtain ⟨y, _, rfl⟩ := List.mem_map.1 hx; simp [sd, stp])]; simp
      rw [e] at h3
      exact (Srt.uniq (upS.srt 0 skew) (hSrt.filter _) h3).symm
    have f1 : R.filter (sd 1) = r.map (stp 1 skew) := by
      have h3 := SK.filter hSK (sd 1)
      have e : (s.map (stp 0 skew) ++ r.map (stp 1 skew)).filter (sd 1) = r.map (stp 1 skew) := by
        rw [List.filter_append, List.filter_eq_nil_iff.2 (fun x hx => by obtain ⟨y, _, rfl⟩ := List.mem_map.1 hx; simp [sd, stp]), List.filter_eq_self.2 (fun x hx => by obtain ⟨y, _, rfl⟩ := List.mem_map.1 hx; simp [sd, stp])]; simp
      rw [e] at h3
      exact (Srt.uniq (upR.srt 1 skew) (hSrt.filter _) h3).symm
    have hside : ∀ x ∈ R, x.Side = 0 ∨ x.Side = 1 := fun x hx => by
      rcases List.mem_append.1 ((hSK.mem).2 hx) with h | h
      · obtain ⟨y, _, rfl⟩ := List.mem_map.1 h; exact .inl rfl
      · obtain ⟨y, _, rfl⟩ := List.mem_map.1 h; exact .inr rfl
    rw [← hRl]
    refine loopW_bind (fun k z => ∃ i : Nat, z.1 = i ∧ i ≤ R.length ∧ k = R.length - i ∧ z.2 = ⟨(((R.take i).filter (sd 0)).length : Int), (((R.take i).filter (sd 1)).length : Int)⟩) (fun o => match o with | .dn _ => True | .rt _ => False) R.length ⟨0, rfl, by omega, by omega, by simp⟩ ?_ ?_
    · rintro k ⟨i0, c⟩ ⟨i, rfl, hi, rfl, rfl⟩
      dsimp only
      by_cases hlt : i < R.length
      · rw [if_pos (decide_eq_true (by omega)), wr1n (i := i) (by omega)]
        have hx := List.getElem?_eq_getElem hlt
        generalize R[i] = x at hx
        have c0 := ct_step (n := 0) hx; have c1 := ct_step (n := 1) hx
        have l0 : ((R.take i).filter (sd 0)).length ≤ R.length := Nat.le_trans (List.length_filter_le _ _) (by simp; omega)
        have l1 : ((R.take i).filter (sd 1)).length ≤ R.length := Nat.le_trans (List.length_filter_le _ _) (by simp; omega)
        simp only [at_nat, hx, Option.bind_some]
        rcases hside x (List.mem_of_getElem? hx) with h0 | h0
        · have he := side_at f0 hx h0
          have hlt2 := (List.getElem?_eq_some_iff.1 he).1
          have ha : at_ (A2_i64.list ⟨(((R.take i).filter (sd 0)).length : Int), (((R.take i).filter (sd 1)).length : Int)⟩) x.Side = some (((R.take i).filter (sd 0)).length : Int) := by rw [h0]; rfl
          rw [if_neg (by rw [h0]; decide), Option.bind_some, if_neg (by rw [h0]; decide), if_neg (by rw [h0]; decide), ha, Option.bind_some, if_neg (by rw [decide_eq_true_iff]; omega), Option.bind_some, at_nat, he, Option.bind_some, Option.bind_some, if_neg (by simp), Option.bind_some, Option.bind_some, wr1n (by omega)]
          refine ⟨_, rfl, R.length - (i + 1), by omega, i + 1, rfl, by omega, rfl, ?_⟩
          dsimp only
          rw [c0, c1, if_pos h0, if_neg (by rw [h0]; decide), h0]; rfl
        · have he := side_at f1 hx h0
          have hlt2 := (List.getElem?_eq_some_iff.1 he).1
          have ha : at_ (A2_i64.list ⟨(((R.take i).filter (sd 0)).length : Int), (((R.take i).filter (sd 1)).length : Int)⟩) x.Side = some (((R.take i).filter (sd 1)).length : Int) := by rw [h0]; rfl
          rw [if_pos (by rw [h0]; decide), Option.bind_some, if_neg (by rw [h0]; decide), if_neg (by rw [h0]; decide), ha, Option.bind_some, if_neg (by rw [decide_eq_true_iff]; omega), Option.bind_some, at_nat, he, Option.bind_some, Option.bind_some, if_neg (by simp), Option.bind_some, Option.bind_some, wr1n (by omega)]
          refine ⟨_, rfl, R.length - (i + 1), by omega, i + 1, rfl, by omega, rfl, ?_⟩
          dsimp only
          rw [c0, c1, if_neg (by rw [h0]; decide), if_pos h0, h0]; rfl
      · rw [if_neg (by rw [decide_eq_true_iff]; omega)]
        exact ⟨_, rfl, trivial⟩
    · rintro (z | r) hq
      · exact ⟨_, rfl, rfl⟩
      · exact hq.elim
end Go.Sl
