/- Each account's balance is what its purse has. -/
import Derived.Test.YteijfoldbinghaaGreatHpLwBal
set_option linter.unusedVariables false
set_option linter.unusedSimpArgs false
namespace Go.Sl
/-- Times and lists are in their bounds. -/
structure okT (n : Nat) (s : escrow_State) : Prop where
  t0 : 0 ≤ s.Time
  t1 : s.Time ≤ 1099511627776
  lk : s.Locks.length ≤ n
theorem okT.up {n m : Nat} {s : escrow_State} (h : okT n s) (hm : n ≤ m) : okT m s := ⟨h.t0, h.t1, by have := h.lk; omega⟩
structure Pur (i : Nat) (c : chain_Chain) : Prop where
  made : c.made = true
  ok : okT i c.s
  pool : c.pool.length ≤ i
  len : c.events.length ≤ i
  side : c.s.Side = 0 ∨ c.s.Side = 1
  bd : Bd (1000 * 2 ^ c.events.length) c.s
  all : ∀ x y, purse_at x y = true → cel c.s.Purse x y + sO c.s.Side x y c.events = 1000 + sI c.s.Side x y c.events ∧ sI c.s.Side x y c.events ≤ 1000 * 2 ^ c.events.length
theorem Pur.up {i j : Nat} {c : chain_Chain} (h : Pur i c) (hj : i ≤ j) : Pur j c := ⟨h.made, h.ok.up hj, by have := h.pool; omega, by have := h.len; omega, h.side, h.bd, h.all⟩
theorem cel_even {x y : Int} (h : purse_at x y = true) : cel (purse_Even 1000) x y = 1000 := by
  obtain ⟨⟨h1, h2⟩, h3, h4⟩ := at_iff.1 h
  have hx : x = 0 ∨ x = 1 ∨ x = 2 ∨ x = 3 ∨ x = 4 ∨ x = 5 ∨ x = 6 ∨ x = 7 := by omega
  have hy : y = 0 ∨ y = 1 := by omega
  unfold purse_Even
  rcases hx with rfl | rfl | rfl | rfl | rfl | rfl | rfl | rfl <;> rcases hy with rfl | rfl <;> exact V_1000
theorem hel_zero {y : Int} (h : 0 ≤ y ∧ y < 2) : hel ⟨W0, W0⟩ y = 0 := by
  have hy : y = 0 ∨ y = 1 := by omega
  rcases hy with rfl | rfl <;> exact V_zero
theorem New_pur (a b : Int) : Pur 0 (chain_New a b) := by
  unfold chain_New escrow_Genesis
  refine ⟨rfl, ⟨?_, ?_, Nat.le_refl _⟩, Nat.le_refl _, Nat.le_refl _, ?_, ⟨fun x y h => ?_, fun y h => ?_⟩, fun x y h => ⟨?_, ?_⟩⟩ <;> dsimp only
  · (try split) <;> (try split) <;> omega
  · (try split) <;> (try split) <;> omega
  · (try split) <;> (try split) <;> omega
  · rw [cel_even h]; decide
  · rw [hel_zero h]; omega
  · rw [cel_even h]; rfl
  · exact Nat.zero_le _
theorem Contains_tot (l : List api_Tx) (t : api_Tx) : Tt (slices_Contains_api_Tx l t) (fun _ => True) := by
  unfold slices_Contains_api_Tx slices_Index_api_Tx
  refine .bind (P := fun _ => True) ?_ fun _ _ => .pure trivial
  exact Tt.loopR (fun _ _ => True) trivial (fun _ _ _ _ _ => .ite (fun _ => .map (.pure (Q := fun _ => True) trivial) fun _ _ => trivial) fun _ => .pure trivial) fun _ _ => .pure trivial
theorem Submit_pur {i : Nat} {c : chain_Chain} (t : api_Tx) (h : Pur i c) (hi : i ≤ 100) : Tt (chain_Chain_Submit c t) (fun r => Pur (i + 1) r.2 ∧ r.2.pool.length ≤ c.pool.length + 1) := by
  unfold chain_Chain_Submit
  refine .bind (P := fun _ => True) (.ite (fun _ => .pure trivial) fun _ => .ite (fun _ => .pure trivial) fun _ => .ite (fun _ => .pure trivial) fun _ => .bind (Contains_tot _ _) fun _ _ => .pure trivial) fun y _ => ?_
  have hp := h.pool
  refine .ite (fun _ => .pure ⟨h.up (by omega), by simp⟩) fun _ => .grd (by simp; omega) (.pure ⟨⟨h.made, h.ok.up (by omega), by simp; omega, by have := h.len; dsimp only; omega, h.side, h.bd, h.all⟩, by simp⟩)
theorem pow_lt {n : Nat} (h : n ≤ 100) : 1000 * 2 ^ n + 5000 < B256 := by
  have : 2 ^ n ≤ 2 ^ 100 := Nat.pow_le_pow_right (by decide) h
  have e : (2 : Nat) ^ 100 = 1267650600228229401496703205376 := by decide
  rw [e] at this
  unfold B256
  omega
theorem Include_pur {i : Nat} {c : chain_Chain} (m : Int) (h : Pur i c) (hi : i ≤ 100) (hp : c.pool.length ≤ 100) : Tt (chain_Chain_Include c m) (fun r => Pur (i + 1) r.2 ∧ r.2.pool.length ≤ c.pool.length) := by
  unfold chain_Chain_Include thn
  refine .ite (fun _ => .pure ⟨h.up (by omega), Nat.le_refl _⟩) fun hn => ?_
  have hne : c.pool.length ≠ 0 := by
    intro h0
    rw [h0] at hn
    simp at hn
  have hlen := h.len
  have hpos : (0 : Int) < (c.pool.length : Int) := by omega
  have m1 := Int.tmod_lt_of_pos m hpos
  have m2 : -(c.pool.length : Int) < Int.tmod m (c.pool.length : Int) := by
    have := Int.tmod_lt_of_pos (-m) hpos
    rw [Int.neg_tmod] at this
    omega
  rw [wrap64 (n := Int.tmod m (c.pool.length : Int) + (c.pool.length : Int)) (by omega) (by omega)]
  obtain ⟨k, hk⟩ : ∃ k, Int.tmod (Int.tmod m (c.pool.length : Int) + (c.pool.length : Int)) (c.pool.length : Int) = k := ⟨_, rfl⟩
  have k1 : k < c.pool.length := by rw [← hk]; exact Int.tmod_lt_of_pos _ hpos
  have k0 : 0 ≤ k := by rw [← hk]; exact Int.tmod_nonneg _ (by omega)
  rw [hk]
  refine .grd (by omega) (.grd (by omega) (.bind (Tt.at1 k0 k1) fun x _ => ?_))
  have hlk := h.ok.lk
  obtain ⟨q, hq, ⟨a1, a2, a3, a4⟩, hm⟩ := Tt.and (Apply_tot c.s x (by omega)) (Apply_sp c.s x h.bd (by omega))
  rw [hq, Option.bind_some]
  refine .ite (fun _ => .pure ⟨h.up (by omega), Nat.le_refl _⟩) fun hok => ?_
  have hok' : q.2.2 = true := by simpa using hok
  obtain ⟨n1, n2, n3, n4⟩ := hm hok'
  have e2 : 1000 * 2 ^ (c.events.length + 1) = 2 * (1000 * 2 ^ c.events.length) := by rw [Nat.pow_succ]; omega
  refine .bind (P := fun r => r.length ≤ c.pool.length - 1) ?_ fun r23 hr => .grd (by simp; omega) (.pure ⟨⟨h.made, ⟨by dsimp only; rw [a2]; exact h.ok.t0, by dsimp only; rw [a2]; exact h.ok.t1, by dsimp only; omega⟩, ?_, by simp; omega, by dsimp only; rw [n1]; exact h.side, ?_, fun a b hab => ?_⟩, by dsimp only; omega⟩)
  · unfold slices_Delete_api_Tx_o
    rw [wrap64 (n := k + 1) (by omega) (by omega)]
    refine .grd (by unfold Go.Sl.okS; simp; omega) (.ite (fun h => ?_) fun _ => .grd (by unfold Go.Sl.okS; simp; omega) (.grd (by unfold Go.Sl.okS; simp; omega) (.pure ?_)))
    · rw [decide_eq_true_iff] at h; omega
    · simp; omega
  · have := h.pool; dsimp only; omega
  · dsimp only
    rw [List.length_append, List.length_singleton, e2]
    exact n2
  · dsimp only
    obtain ⟨f1, f2⟩ := h.all a b hab
    have f3 := n3 a b hab
    have hpw := pow_lt (n := c.events.length) (by omega)
    have ls := line_sp (s := c.s.Side) (a := a) (b := b) (M := 1000 * 2 ^ c.events.length) ⟨q.1.Time, q.2.1, x⟩ h.side (by omega) (fun h0 => n4 h0 a b)
    dsimp only at ls
    rw [n1, sI_snoc, sO_snoc, List.length_append, List.length_singleton, e2, ls.1, ls.2]
    have hI : (if q.2.1 = 0 then mvI c.s.Side x a b else 0) ≤ 1000 * 2 ^ c.events.length := by
      split
      · next h0 => exact (n4 h0 a b).1
      · omega
    generalize 2 ^ c.events.length = P at *
    omega
theorem Rise_pur {i : Nat} {c : chain_Chain} (m : Int) (h : Pur i c) (hi : i ≤ 100) : Tt (chain_Chain_Rise c m) (fun r => Pur i r ∧ r.pool = c.pool) := by
  unfold chain_Chain_Rise chain_Chain_is
  rw [if_pos h.made, Rise_val h.ok.t0 h.ok.t1 (by have := h.ok.lk; omega)]
  have := upT_le (k := m) h.ok.t1
  have h0 := h.ok.t0
  exact .pure ⟨⟨h.made, ⟨by dsimp only; omega, by dsimp only; omega, h.ok.lk⟩, h.pool, h.len, h.side, ⟨h.bd.cell, h.bd.held⟩, h.all⟩, rfl⟩
theorem Events_pur {i : Nat} {c : chain_Chain} (h : Pur i c) (hi : i ≤ 100) : chain_Chain_Events c 0 = some c.events := by
  unfold chain_Chain_Events chain_Chain_is slices_Clone_api_Event
  have hl := h.len
  have e : (if (c.events.length : Int) < (if (0 : Int) > 0 then 0 else 0) then (c.events.length : Int) else if (0 : Int) > 0 then 0 else 0) = 0 := by split <;> simp <;> try omega
  rw [h.made, e]
  rw [if_neg (by simp), grd_pos (by unfold Go.Sl.okS; simp), grd_pos (by simp [slc]; omega)]
  simp [slc]
theorem Of_val (b : purse_Book) {x y : Int} (h : purse_at x y = true) : ∃ w, purse_Book_Of b x y = some w ∧ V w = cel b x y := by
  obtain ⟨h1, h2⟩ := at_iff.1 h
  obtain ⟨c, hc⟩ := bk_at b h1
  obtain ⟨w, hw⟩ := a2_at c h2
  refine ⟨w, ?_, (cel_at hc hw).symm⟩
  unfold purse_Book_Of
  rw [h, if_neg (by simp), hc, Option.bind_some, hw]
  rfl
theorem band_side {s : Int} (h : s = 0 ∨ s = 1) : bandK .i64 s 1 = s := by
  rcases h with rfl | rfl <;> rfl
theorem HistoryPurses_true (a b : Int) (l : List api_Tx) (o : List Int) (_ : l.length ≤ 1048576) (_ : o.length ≤ 1048576) : ∃ r, narrowslaw31_HistoryPurses a b l o = some r ∧ r = true := by
  show Tt _ (fun r => r = true)
  unfold narrowslaw31_HistoryPurses
  rw [alive31, Option.bind_some]
  refine .ite (fun h => by simp at h) fun _ => ?_
  refine Tt.loopW (S := fun r : Bool => r = true) (fun k s => ∃ i : Nat, s.1 = i ∧ i ≤ 30 ∧ k = 30 - i ∧ Pur (2 * i) s.2 ∧ s.2.pool.length ≤ i) (fun s => Pur 60 s.2) 30 ⟨0, rfl, by omega, by omega, New_pur a b, by unfold chain_New; simp⟩ ?_ ?_
  · rintro k ⟨i0, c⟩ ⟨i, rfl, hi, rfl, hc, hp⟩
    dsimp only at *
    unfold thn
    refine .ite (fun hlt => ?_) fun _ => .pure (hc.up (by omega))
    have h1 : i < l.length := by by_cases h : (i : Int) < (l.length : Int); omega; simp [h] at hlt
    have h2 : i < 30 := by by_cases h : (i : Int) < 30; omega; simp [h] at hlt
    refine .bind (P := fun c : chain_Chain => Pur (2 * i + 2) c ∧ c.pool.length ≤ i + 1) (.bind (Tt.at1 (by omega) (by omega)) fun x _ => .bind (Submit_pur x hc (by omega)) fun r hr => ?_) fun y hy => .pure ⟨30 - (i + 1), by omega, i + 1, by dsimp only; rw [wrap64 (by omega) (by omega)]; rfl, by omega, rfl, hy.1.up (by omega), hy.2⟩
    obtain ⟨r1, r4⟩ := hr
    refine .ite (fun ho => ?_) fun _ => .pure ⟨r1.up (by omega), by omega⟩
    rw [decide_eq_true_iff] at ho
    refine .bind (Tt.at1 (by omega) ho) fun y _ => .bind (Include_pur y r1 (by omega) (by omega)) fun r2 h2 => .bind (Tt.at1 (by omega) ho) fun z _ => .bind (Rise_pur _ h2.1 (by omega)) fun r3 h3 => .pure ⟨h3.1.up (by omega), by rw [h3.2]; omega⟩
  · rintro ⟨i, c⟩ hc
    dsimp only at *
    have hl := hc.len
    have hS : chain_Chain_State c = some c.s := by
      unfold chain_Chain_State chain_Chain_is
      rw [hc.made, if_neg (by simp), Rise_val hc.ok.t0 hc.ok.t1 (by have := hc.ok.lk; omega)]
      have e : upT c.s.Time 0 = c.s.Time := by unfold upT; have := hc.ok.t0; have := hc.ok.t1; omega
      rw [e]
      rfl
    rw [hS, Option.bind_some]
    refine Tt.loopW (S := fun r : Bool => r = true) (fun k i => ∃ n : Nat, i = n ∧ n ≤ 16 ∧ k = 16 - n) (fun _ => True) 16 ⟨0, rfl, by omega, by omega⟩ ?_ fun _ _ => .pure rfl
    rintro k i ⟨n, rfl, hn, rfl⟩
    refine .ite (fun hlt => ?_) fun _ => .pure trivial
    rw [decide_eq_true_iff] at hlt
    have t1 : Int.tdiv (n : Int) 2 = ((n / 2 : Nat) : Int) := rfl
    have t2 : Int.tmod (n : Int) 2 = ((n % 2 : Nat) : Int) := rfl
    rw [Events_pur hc (by omega), Option.bind_some, t1, t2, wrap64 (n := ((n / 2 : Nat) : Int)) (by omega) (by omega)]
    have hv : purse_at ((n / 2 : Nat) : Int) ((n % 2 : Nat) : Int) = true := at_iff.2 ⟨⟨by omega, by omega⟩, by omega, by omega⟩
    obtain ⟨f1, f2⟩ := hc.all _ _ hv
    have hpw := pow_lt (n := c.events.length) (by omega)
    have hbs := band_side hc.side
    obtain ⟨z, hz, zv⟩ := Balance_val (l := c.events) (sd := c.s.Side) hv (by omega) (by rw [hbs]; omega) (by rw [hbs]; omega)
    obtain ⟨w, hw, wv⟩ := Of_val c.s.Purse hv
    rw [hbs] at zv
    have hzw : z = w := V_inj (by omega)
    rw [hz, Option.bind_some, hw]
    subst hzw
    refine .bind (P := fun y => y = false) (.ite (fun h => by simp at h) fun _ => .pure (by simp)) fun y hy => ?_
    subst hy
    exact .pure ⟨16 - (n + 1), by omega, n + 1, by rw [wrap64 (by omega) (by omega)]; rfl, by omega, rfl⟩
end Go.Sl
