/- A chain's events alone tell its state. -/
import Derived.Test.YteijfoldbinghaaGreatRcLwRep
set_option linter.unusedVariables false
set_option linter.unusedSimpArgs false
namespace Go.Sl
/-- What a chain is, of what it did. -/
structure Chn (a b : Int) (i : Nat) (c : chain_Chain) : Prop where
  made : c.made = true
  ok : okT i c.s
  pool : c.pool.length ≤ i
  len : c.events.length ≤ i
  all : (run (escrow_Genesis a b) c.events).2 = c.events.length
  le : (run (escrow_Genesis a b) c.events).1.Time ≤ c.s.Time
  is : { (run (escrow_Genesis a b) c.events).1 with Time := c.s.Time } = c.s
theorem Chn.up {a b : Int} {i j : Nat} {c : chain_Chain} (h : Chn a b i c) (hj : i ≤ j) : Chn a b j c := ⟨h.made, h.ok.up hj, by have := h.pool; omega, by have := h.len; omega, h.all, h.le, h.is⟩
theorem New_chn (a b : Int) : Chn a b 0 (chain_New a b) := by
  unfold chain_New
  exact ⟨rfl, okG a b, Nat.le_refl _, Nat.le_refl _, rfl, Int.le_refl _, rfl⟩
theorem Contains_tot (l : List api_Tx) (t : api_Tx) : Tt (slices_Contains_api_Tx l t) (fun _ => True) := by
  unfold slices_Contains_api_Tx slices_Index_api_Tx
  refine .bind (P := fun _ => True) ?_ fun _ _ => .pure trivial
  exact Tt.loopR (fun _ _ => True) trivial (fun _ _ _ _ _ => .ite (fun _ => .map (.pure (Q := fun _ => True) trivial) fun _ _ => trivial) fun _ => .pure trivial) fun _ _ => .pure trivial
theorem Submit_chn {a b : Int} {i : Nat} {c : chain_Chain} (t : api_Tx) (h : Chn a b i c) (hi : i ≤ 100) : Tt (chain_Chain_Submit c t) (fun r => Chn a b (i + 1) r.2 ∧ r.2.s = c.s ∧ r.2.events = c.events ∧ r.2.pool.length ≤ c.pool.length + 1) := by
  unfold chain_Chain_Submit
  refine .bind (P := fun _ => True) (.ite (fun _ => .pure trivial) fun _ => .ite (fun _ => .pure trivial) fun _ => .ite (fun _ => .pure trivial) fun _ => .bind (Contains_tot _ _) fun _ _ => .pure trivial) fun y _ => ?_
  have hp := h.pool
  refine .ite (fun _ => .pure ⟨h.up (by omega), rfl, rfl, by simp⟩) fun _ => .grd (by simp; omega) (.pure ⟨⟨h.made, h.ok.up (by omega), by simp; omega, by have := h.len; dsimp only; omega, h.all, h.le, h.is⟩, rfl, rfl, by simp⟩)
theorem run_later {a b : Int} {i : Nat} {c : chain_Chain} (h : Chn a b i c) (hi : i ≤ 100) {e : api_Event} (he : e.Time = c.s.Time) : later (run (escrow_Genesis a b) c.events).1 e.Time = c.s := by
  have hk := run_ok (l := c.events) (okG a b) (by have := h.len; omega)
  have hle := h.le
  have h0 := hk.t0
  have h1 := h.ok.t1
  unfold later
  rw [he]
  have e1 : (if (run (escrow_Genesis a b) c.events).1.Time > c.s.Time then (run (escrow_Genesis a b) c.events).1.Time else c.s.Time) = c.s.Time := by split <;> omega
  rw [e1, wrap64 (by omega) (by omega)]
  have e2 : upT (run (escrow_Genesis a b) c.events).1.Time (c.s.Time - (run (escrow_Genesis a b) c.events).1.Time) = c.s.Time := by unfold upT; omega
  rw [e2]
  exact h.is
theorem Include_chn {a b : Int} {i : Nat} {c : chain_Chain} (m : Int) (h : Chn a b i c) (hi : i ≤ 100) (hp : c.pool.length ≤ 100) : Tt (chain_Chain_Include c m) (fun r => Chn a b (i + 1) r.2 ∧ r.2.pool.length ≤ c.pool.length) := by
  unfold chain_Chain_Include thn
  refine .ite (fun _ => .pure ⟨h.up (by omega), Nat.le_refl _⟩) fun hn => ?_
  have hne : c.pool.length ≠ 0 := by
    intro h0
    rw [h0] at hn
    simp at hn
  have hlen := h.len
  have hpos : (0 : Int) < (c.pool.length : Int) := by omega
  have m1 := Int.tmod_lt_of_pos m hpos
  have m2 : -(c.pool.length : Int) < Int.tmod m (c.pool.length : Int) := by
    have := Int.tmod_lt_of_pos (-m) hpos
    rw [Int.neg_tmod] at this
    omega
  rw [wrap64 (n := Int.tmod m (c.pool.length : Int) + (c.pool.length : Int)) (by omega) (by omega)]
  obtain ⟨k, hk⟩ : ∃ k, Int.tmod (Int.tmod m (c.pool.length : Int) + (c.pool.length : Int)) (c.pool.length : Int) = k := ⟨_, rfl⟩
  have k1 : k < c.pool.length := by rw [← hk]; exact Int.tmod_lt_of_pos _ hpos
  have k0 : 0 ≤ k := by rw [← hk]; exact Int.tmod_nonneg _ (by omega)
  rw [hk]
  refine .grd (by omega) (.grd (by omega) (.bind (Tt.at1 k0 k1) fun x _ => ?_))
  obtain ⟨q, hq, a1, a2, a3, a4⟩ := Apply_tot c.s x (by have := h.ok.lk; omega)
  rw [hq, Option.bind_some]
  refine .ite (fun _ => .pure ⟨h.up (by omega), Nat.le_refl _⟩) fun hok => ?_
  have hok' : q.2.2 = true := by simpa using hok
  refine .bind (P := fun r => r.length ≤ c.pool.length - 1) ?_ fun r23 hr => .grd (by simp; omega) (.pure ⟨⟨h.made, ⟨by dsimp only; rw [a2]; exact h.ok.t0, by dsimp only; rw [a2]; exact h.ok.t1, by have := h.ok.lk; dsimp only; omega⟩, ?_, by simp; omega, ?_, ?_, ?_⟩, by dsimp only; omega⟩)
  · unfold slices_Delete_api_Tx_o
    rw [wrap64 (n := k + 1) (by omega) (by omega)]
    refine .grd (by unfold Go.Sl.okS; simp; omega) (.ite (fun h => ?_) fun _ => .grd (by unfold Go.Sl.okS; simp; omega) (.grd (by unfold Go.Sl.okS; simp; omega) (.pure ?_)))
    · rw [decide_eq_true_iff] at h; omega
    · simp; omega
  · have := h.pool; dsimp only; omega
  all_goals
    have hrun := run_snoc (l := c.events) ⟨q.1.Time, q.2.1, x⟩ (s := escrow_Genesis a b) (s' := (run (escrow_Genesis a b) c.events).1) (Prod.ext rfl h.all)
    have hk := run_ok (l := c.events) (okG a b) (by omega)
    obtain ⟨q', hq', -, -, hst⟩ := step_spec ⟨q.1.Time, q.2.1, x⟩ hk (by omega)
    rw [run_later h hi (e := ⟨q.1.Time, q.2.1, x⟩) a2] at hq'
    rw [hq] at hq'
    obtain rfl := Option.some.inj hq'
    have hT : stepT (run (escrow_Genesis a b) c.events).1 ⟨q.1.Time, q.2.1, x⟩ = (q.1, true) := by
      unfold stepT
      rw [hst, hok']
      simp
    rw [hT] at hrun
    simp only [if_true] at hrun
    rw [show ([⟨q.1.Time, q.2.1, x⟩] : List api_Event) = [(⟨q.1.Time, q.2.1, x⟩ : api_Event)] from rfl, hrun]
  · simp
  · simp
theorem Rise_chn {a b : Int} {i : Nat} {c : chain_Chain} (m : Int) (h : Chn a b i c) (hi : i ≤ 100) : Tt (chain_Chain_Rise c m) (fun r => Chn a b i r ∧ r.pool = c.pool) := by
  unfold chain_Chain_Rise chain_Chain_is
  rw [if_pos h.made, Rise_val h.ok.t0 h.ok.t1 (by have := h.ok.lk; omega)]
  have := upT_le (k := m) h.ok.t1
  have h0 := h.ok.t0
  have hle := h.le
  refine .pure ⟨⟨h.made, ⟨by dsimp only; omega, by dsimp only; omega, h.ok.lk⟩, h.pool, h.len, h.all, by dsimp only; omega, ?_⟩, rfl⟩
  have := h.is
  dsimp only
  rw [← this]
theorem Events_chn {a b : Int} {i : Nat} {c : chain_Chain} (h : Chn a b i c) (hi : i ≤ 100) : chain_Chain_Events c 0 = some c.events := by
  unfold chain_Chain_Events chain_Chain_is slices_Clone_api_Event
  have hl := h.len
  have e : (if (c.events.length : Int) < (if (0 : Int) > 0 then 0 else 0) then (c.events.length : Int) else if (0 : Int) > 0 then 0 else 0) = 0 := by split <;> simp <;> try omega
  rw [h.made, e]
  rw [if_neg (by simp), grd_pos (by unfold Go.Sl.okS; simp), grd_pos (by simp [slc]; omega)]
  simp [slc]
theorem ReplayChains_true (a b : Int) (l : List api_Tx) (o : List Int) (_ : l.length ≤ 1048576) (_ : o.length ≤ 1048576) : ∃ r, narrowslaw37_ReplayChains a b l o = some r ∧ r = true := by
  show Tt _ (fun r => r = true)
  unfold narrowslaw37_ReplayChains
  rw [alive37, Option.bind_some]
  refine .ite (fun h => by simp at h) fun _ => ?_
  refine Tt.loopW (S := fun r : Bool => r = true) (fun k s => ∃ i : Nat, s.1 = i ∧ i ≤ 30 ∧ k = 30 - i ∧ Chn a b (2 * i) s.2 ∧ s.2.pool.length ≤ i) (fun s => Chn a b 60 s.2) 30 ⟨0, rfl, by omega, by omega, New_chn a b, by unfold chain_New; simp⟩ ?_ ?_
  · rintro k ⟨i0, c⟩ ⟨i, rfl, hi, rfl, hc, hp⟩
    dsimp only at *
    unfold thn
    refine .ite (fun hlt => ?_) fun _ => .pure (hc.up (by omega))
    have h1 : i < l.length := by by_cases h : (i : Int) < (l.length : Int); omega; simp [h] at hlt
    have h2 : i < 30 := by by_cases h : (i : Int) < 30; omega; simp [h] at hlt
    refine .bind (P := fun c : chain_Chain => Chn a b (2 * i + 2) c ∧ c.pool.length ≤ i + 1) (.bind (Tt.at1 (by omega) (by omega)) fun x _ => .bind (Submit_chn x hc (by omega)) fun r hr => ?_) fun y hy => .pure ⟨30 - (i + 1), by omega, i + 1, by dsimp only; rw [wrap64 (by omega) (by omega)]; rfl, by omega, rfl, hy.1.up (by omega), hy.2⟩
    obtain ⟨r1, _, _, r4⟩ := hr
    refine .ite (fun ho => ?_) fun _ => .pure ⟨r1.up (by omega), by omega⟩
    rw [decide_eq_true_iff] at ho
    refine .bind (Tt.at1 (by omega) ho) fun y _ => .bind (Include_chn y r1 (by omega) (by omega)) fun r2 h2 => .bind (Tt.at1 (by omega) ho) fun z _ => .bind (Rise_chn _ h2.1 (by omega)) fun r3 h3 => .pure ⟨h3.1.up (by omega), by rw [h3.2]; omega⟩
  · rintro ⟨i, c⟩ hc
    dsimp only at *
    have hl := hc.len
    have hk := run_ok (l := c.events) (okG a b) (by omega)
    have h0 := hk.t0
    have h1 := hc.ok.t1
    have hle := hc.le
    have hS : chain_Chain_State c = some c.s := by
      unfold chain_Chain_State chain_Chain_is
      rw [hc.made, if_neg (by simp), Rise_val hc.ok.t0 hc.ok.t1 (by have := hc.ok.lk; omega), upT_0 hc.ok.t0 hc.ok.t1]
      rfl
    rw [Events_chn hc (by omega), Option.bind_some, State_val a b (by omega), Option.bind_some, hS, Option.bind_some]
    dsimp only
    have hR : escrow_Rise (run (escrow_Genesis a b) c.events).1 (IntKind.i64.wrap (c.s.Time - (run (escrow_Genesis a b) c.events).1.Time)) = some c.s := by
      rw [wrap64 (by omega) (by omega), Rise_val hk.t0 hk.t1 (by have := hk.lk; omega)]
      have e2 : upT (run (escrow_Genesis a b) c.events).1.Time (c.s.Time - (run (escrow_Genesis a b) c.events).1.Time) = c.s.Time := by unfold upT; omega
      rw [e2]
      exact congrArg some hc.is
    rw [if_neg (by rw [decide_eq_true_iff]; omega), hR, Option.bind_some, Option.bind_some, hc.all, same_self (by have := hc.ok.lk; omega), Same_self]
    rw [if_pos (decide_eq_true rfl)]
    exact ⟨true, rfl, rfl⟩
end Go.Sl
