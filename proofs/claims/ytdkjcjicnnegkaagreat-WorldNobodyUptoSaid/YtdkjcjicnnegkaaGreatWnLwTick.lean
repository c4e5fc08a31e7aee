/- A world behind its first tick. -/
import Derived.Test.YtdkjcjicnnegkaaGreatWnLwNew
set_option linter.unusedVariables false
set_option linter.unusedSimpArgs false
namespace Go.Sl
theorem sideOf {o : Option chain_Chain} {v : Int × Nat × Nat × Nat × Bool × purse_Book} (h : o.map seenC = some v) : ∃ c, o = some c ∧ seenC c = v := by
  cases o with
  | none => cases h
  | some c => exact ⟨c, rfl, Option.some.inj h⟩
theorem seenN : seenC (chain_New 0 1000) = (1000, 0, 0, 0, true, bk 0 0) := by kernel_rfl
theorem clone_lock {l : List escrow_Lock} (h : l.length ≤ 1000) : slices_Clone_escrow_Lock l = some l := by
  unfold slices_Clone_escrow_Lock
  rw [grd_pos (by simp; omega)]
  rfl
theorem clone_ev {l : List api_Event} (h : l.length ≤ 1000) : slices_Clone_api_Event l = some l := by
  unfold slices_Clone_api_Event
  rw [grd_pos (by simp; omega)]
  rfl
theorem is_some {c : chain_Chain} : chain_Chain_is_bx (some c) = some c.made := by unfold chain_Chain_is_bx; rfl
section
variable {c : chain_Chain} {T : Int} {p e : Nat} {v : purse_Book} (hc : seenC c = (T, 0, p, e, true, v))
include hc
theorem parts : c.s.Time = T ∧ c.s.Locks.length = 0 ∧ c.pool.length = p ∧ c.events.length = e ∧ c.made = true ∧ c.s.Vault = v := by
  unfold seenC at hc
  simp only [Prod.mk.injEq] at hc
  exact hc
theorem rise_val (h0 : 0 ≤ T) (h1 : T ≤ 1000000) {n : Int} (hn : 0 ≤ n) (hn1 : n ≤ 1000) : ∃ c', chain_Chain_Rise_bx (some c) n = some (some c') ∧ seenC c' = (T + n, 0, p, e, true, v) := by
  obtain ⟨a1, a2, a3, a4, a5, a6⟩ := parts hc
  unfold chain_Chain_Rise_bx escrow_Rise
  rw [is_some, Option.bind_some, a5, if_pos rfl, Option.bind_some, clone_lock (by omega), Option.bind_some, Option.bind_some]
  refine ⟨_, rfl, ?_⟩
  unfold seenC
  dsimp only
  rw [a1, a3, a4, a6, a2, wrap64 (n := 1099511627776 - T) (by omega) (by omega), if_neg (show ¬ (0 : Int) > n by omega), if_neg (show ¬ (0 : Int) > 1099511627776 - T by omega), if_neg (show ¬ (1099511627776 - T < n) by omega), wrap64 (by omega) (by omega), a5]
theorem time_val : chain_Chain_Time_bx (some c) = some T := by
  obtain ⟨a1, a2, a3, a4, a5, a6⟩ := parts hc
  unfold chain_Chain_Time_bx
  rw [is_some, Option.bind_some, a5, if_neg (by simp), Option.bind_some, a1]
theorem events_val (he : e ≤ 1000) : ∃ l, chain_Chain_Events_bx (some c) 0 = some l ∧ l.length = e := by
  obtain ⟨a1, a2, a3, a4, a5, a6⟩ := parts hc
  unfold chain_Chain_Events_bx
  have hm : (if (c.events.length : Int) < (if (0 : Int) > 0 then 0 else 0) then (c.events.length : Int) else if (0 : Int) > 0 then 0 else 0) = 0 := by
    rw [if_neg (by simp)]; rfl
  rw [is_some, Option.bind_some, a5, if_neg (by simp), Option.bind_some, hm, grd_pos (by unfold okS; simp), clone_ev (by simp [slc]; omega), Option.bind_some]
  exact ⟨_, rfl, by simp [slc, a4]⟩
end
theorem wis_some {W : world_World} (h : W.since = some []) : world_World_is_bx (some W) = some true ∧ world_World_is W = true := by
  unfold world_World_is_bx world_World_is
  rw [h]
  exact ⟨by simp only [Option.isSome_some, if_true, Option.bind_some, h], rfl⟩
/-- Behind a tick. -/
structure Ticked (s : world_Setup) (W : world_World) : Prop where
  since : W.since = some []
  now : W.now = 1
  s0 : W.sides.a0.map seenC = some (1001, 0, 0, 0, true, bk 0 0)
  s1 : W.sides.a1.map seenC = some (1001 + s.Skew, 0, 0, (if bit s 2 then 0 else 2) + (if bit s 3 then 0 else 2), true, bk (if bit s 2 then 0 else 400) (if bit s 3 then 0 else 400))
theorem tick_ok {s : world_Setup} {W : world_World} (h : Made s W) (hs : okSu s) : Tt (world_World_tick_bx (some W)) (fun r => ∃ W', r = some W' ∧ Ticked s W') := by
  obtain ⟨d1, d2, k1, k2, q1, q2, m1, m2⟩ := hs
  obtain ⟨ca, ha, hca⟩ : ∃ c, W.sides.a0 = some c ∧ seenC c = (1000, 0, 0, 0, true, bk 0 0) := ⟨_, h.s0, seenN⟩
  obtain ⟨cb, hb, hcb⟩ := sideOf h.s1
  obtain ⟨ca', ra, hra⟩ := rise_val hca (by decide) (by decide) (n := 1) (by decide) (by decide)
  obtain ⟨cb', rb, hrb⟩ := rise_val hcb (by omega) (by omega) (n := 1) (by decide) (by decide)
  unfold world_World_tick_bx
  rw [Option.bind_some, ha, hb, ra, Option.bind_some, rb, Option.bind_some, corrupt_val (by decide)]
  have any : ∀ {x : Option Bool} {f : Bool → Option A4_bool}, (∃ b, x = some b) → (∀ b, ∃ r, f b = some r) → Tt (Option.bind x f) (fun _ => True) := fun ⟨b, hb⟩ hf => by
    subst hb
    obtain ⟨r, hr⟩ := hf b
    exact ⟨r, hr, trivial⟩
  have one : ∀ {c : Bool} {b : Bool}, ∃ r, (if c = true then some b else some false) = some r := fun {c b} => by cases c <;> exact ⟨_, rfl⟩
  have two : ∀ {x y : A4_bool} (b : Bool), ∃ r, (if b = true then some x else some y) = some r := fun {x y} b => by cases b <;> exact ⟨_, rfl⟩
  refine .bind (any (by rw [Option.bind_some]; exact one) two) fun l1 _ => ?_
  rw [corrupt_val (by decide)]
  refine .bind (any (by rw [Option.bind_some]; exact one) two) fun l2 _ => ?_
  rw [corrupt_val (by decide)]
  refine .bind (any (by rw [Option.bind_some]; exact one) two) fun l3 _ => ?_
  rw [corrupt_val (by decide)]
  refine .bind (any (by rw [Option.bind_some]; exact one) two) fun l4 _ => ?_
  rw [h.since, Option.bind_some]
  refine .grd rfl (.pure ⟨_, rfl, rfl, ?_, ?_, ?_⟩)
  · show IntKind.i64.wrap (W.now + 1) = 1
    rw [h.now]; rfl
  · exact congrArg some hra
  · refine congrArg some (hrb.trans ?_)
    have e : 1000 + s.Skew + 1 = 1001 + s.Skew := by omega
    rw [e]
theorem alive24 : narrowslaw24_alive = some true := by
  have ho : okSu ⟨1, 0, 0, 9000⟩ := by unfold okSu; decide
  obtain ⟨r, hr, h0, W, hW, hm⟩ := New_ok ho
  obtain ⟨o, htk, W', rfl, ht⟩ := tick_ok hm ho
  have b2 : bit ⟨1, 0, 0, 9000⟩ 2 = false := by kernel_rfl
  have b3 : bit ⟨1, 0, 0, 9000⟩ 3 = false := by kernel_rfl
  have key : Tt narrowslaw24_alive (fun r => r = true) := by
    unfold narrowslaw24_alive
    rw [hr, Option.bind_some, h0, hW]
    refine .thn (.ite (fun h => by cases h) fun _ => ?_)
    unfold world_World_Step_bx
    rw [(wis_some hm.since).1, Option.bind_some, if_neg (by decide), if_pos (by decide), htk, Option.bind_some, Option.bind_some]
    unfold world_World_Now_bx
    rw [(wis_some ht.since).1, Option.bind_some, if_neg (by decide), Option.bind_some, ht.now, Option.bind_some, if_pos (by decide)]
    unfold world_World_Mail_bx
    rw [(wis_some ht.since).1, Option.bind_some, if_neg (by decide), Option.bind_some]
    have hmail : grd (okS (net_Twin_nil 0).length none (some 0) none) (some (slc (net_Twin_nil 0) 0 (0 : Int).toNat)) = some ([] : List api_Mail) := by
      rw [grd_pos (by unfold okS; simp)]
      unfold slc
      simp
    rw [hmail, Option.bind_some, if_pos (by decide), Option.bind_some]
    have s0 : world_World_Side_k0 W' = 1 := by
      unfold world_World_Side_k0 world_within
      rw [(wis_some ht.since).2]; rfl
    have s1 : world_World_Side_k1 W' = 1 := by
      unfold world_World_Side_k1 world_within
      rw [(wis_some ht.since).2]; rfl
    obtain ⟨ca, ha, hca⟩ := sideOf ht.s0
    obtain ⟨cb, hb, hcb⟩ := sideOf ht.s1
    rw [b2, b3] at hcb
    obtain ⟨l, hl, hle⟩ := events_val hcb (by decide)
    rw [grd_pos (by rw [s0]; decide), ha, time_val hca, Option.bind_some, if_pos (by decide), grd_pos (by rw [s1]; decide), hb, hl, Option.bind_some, Option.bind_some]
    refine .pure ?_
    rw [decide_eq_true_iff, hle]
    rfl
  obtain ⟨r, hr, rfl⟩ := key
  exact hr
theorem band01 (x : Int) : bandK .i64 x 1 = 0 ∨ bandK .i64 x 1 = 1 := by
  have h : ((BitVec.ofInt 64 x &&& BitVec.ofInt 64 1).toNat) = (BitVec.ofInt 64 x).toNat % 2 := by
    rw [BitVec.toNat_and]
    exact Nat.and_one_is_mod _
  have hb : bandK .i64 x 1 = IntKind.i64.wrap (((BitVec.ofInt 64 x &&& BitVec.ofInt 64 1).toNat : Nat) : Int) := rfl
  rw [hb, h]
  have : (BitVec.ofInt 64 x).toNat % 2 = 0 ∨ (BitVec.ofInt 64 x).toNat % 2 = 1 := by omega
  rcases this with h | h <;> rw [h]
  · exact .inl rfl
  · exact .inr rfl
theorem nbit (s : world_Setup) (n : Int) : decide ((bandK .i64 (shrK .i64 s.Corrupt n) 1) = 0) = !bit s n := by
  unfold bit
  rcases band01 (shrK .i64 s.Corrupt n) with h | h <;> rw [h] <;> rfl
end Go.Sl
