/- A world behind its first tick; which setups may be, who there is at first, and what routers have. -/
import Derived.Test.YtdkjcjicnnegkaaGreatWmLwNew
set_option linter.unusedVariables false
set_option linter.unusedSimpArgs false
namespace Go.Sl
theorem sideOf {o : Option chain_Chain} {v : Int × Nat × Nat × Nat × Bool × purse_Book} (h : o.map seenC = some v) : ∃ c, o = some c ∧ seenC c = v := by
  cases o with
  | none => cases h
  | some c => exact ⟨c, rfl, Option.some.inj h⟩
theorem seenN : seenC (chain_New 0 1000) = (1000, 0, 0, 0, true, bk 0 0) := by kernel_rfl
theorem clone_lock {l : List escrow_Lock} (h : l.length ≤ 1000) : slices_Clone_escrow_Lock l = some l := by
  unfold slices_Clone_escrow_Lock
  rw [grd_pos (by simp; omega)]
  rfl
theorem clone_ev {l : List api_Event} (h : l.length ≤ 1000) : slices_Clone_api_Event l = some l := by
  unfold slices_Clone_api_Event
  rw [grd_pos (by simp; omega)]
  rfl
theorem is_some {c : chain_Chain} : chain_Chain_is_bx (some c) = some c.made := by unfold chain_Chain_is_bx; rfl
section
variable {c : chain_Chain} {T : Int} {p e : Nat} {v : purse_Book} (hc : seenC c = (T, 0, p, e, true, v))
include hc
theorem parts : c.s.Time = T ∧ c.s.Locks.length = 0 ∧ c.pool.length = p ∧ c.events.length = e ∧ c.made = true ∧ c.s.Vault = v := by
  unfold seenC at hc
  simp only [Prod.mk.injEq] at hc
  exact hc
theorem rise_val (h0 : 0 ≤ T) (h1 : T ≤ 1000000) {n : Int} (hn : 0 ≤ n) (hn1 : n ≤ 1000) : ∃ c', chain_Chain_Rise_bx (some c) n = some (some c') ∧ seenC c' = (T + n, 0, p, e, true, v) := by
  obtain ⟨a1, a2, a3, a4, a5, a6⟩ := parts hc
  unfold chain_Chain_Rise_bx escrow_Rise
  rw [is_some, Option.bind_some, a5, if_pos rfl, Option.bind_some, clone_lock (by omega), Option.bind_some, Option.bind_some]
  refine ⟨_, rfl, ?_⟩
  unfold seenC
  dsimp only
  rw [a1, a3, a4, a6, a2, wrap64 (n := 1099511627776 - T) (by omega) (by omega), if_neg (show ¬ (0 : Int) > n by omega), if_neg (show ¬ (0 : Int) > 1099511627776 - T by omega), if_neg (show ¬ (1099511627776 - T < n) by omega), wrap64 (by omega) (by omega), a5]
theorem time_val : chain_Chain_Time_bx (some c) = some T := by
  obtain ⟨a1, a2, a3, a4, a5, a6⟩ := parts hc
  unfold chain_Chain_Time_bx
  rw [is_some, Option.bind_some, a5, if_neg (by simp), Option.bind_some, a1]
theorem events_val (he : e ≤ 1000) : ∃ l, chain_Chain_Events_bx (some c) 0 = some l ∧ l.length = e := by
  obtain ⟨a1, a2, a3, a4, a5, a6⟩ := parts hc
  unfold chain_Chain_Events_bx
  have hm : (if (c.events.length : Int) < (if (0 : Int) > 0 then 0 else 0) then (c.events.length : Int) else if (0 : Int) > 0 then 0 else 0) = 0 := by
    rw [if_neg (by simp)]; rfl
  rw [is_some, Option.bind_some, a5, if_neg (by simp), Option.bind_some, hm, grd_pos (by unfold okS; simp), clone_ev (by simp [slc]; omega), Option.bind_some]
  exact ⟨_, rfl, by simp [slc, a4]⟩
theorem state_val (h0 : 0 ≤ T) (h1 : T ≤ 1000000) : Tt (chain_Chain_State_bx (some c)) (fun s => s.Vault = v) := by
  obtain ⟨a1, a2, a3, a4, a5, a6⟩ := parts hc
  unfold chain_Chain_State_bx escrow_Rise
  rw [is_some, Option.bind_some, a5, if_neg (by simp), Option.bind_some, clone_lock (by omega), Option.bind_some, Option.bind_some]
  exact .pure a6
end
theorem wis_some {W : world_World} (h : W.since = some []) : world_World_is_bx (some W) = some true ∧ world_World_is W = true := by
  unfold world_World_is_bx world_World_is
  rw [h]
  exact ⟨by simp only [Option.isSome_some, if_true, Option.bind_some, h], rfl⟩
/-- Behind a tick. -/
structure Ticked (s : world_Setup) (W : world_World) : Prop where
  since : W.since = some []
  now : W.now = 1
  s0 : W.sides.a0.map seenC = some (1001, 0, 0, 0, true, bk 0 0)
  s1 : W.sides.a1.map seenC = some (1001 + s.Skew, 0, 0, (if bit s 2 then 0 else 2) + (if bit s 3 then 0 else 2), true, bk (if bit s 2 then 0 else 400) (if bit s 3 then 0 else 400))
theorem tick_ok {s : world_Setup} {W : world_World} (h : Made s W) (hs : okS' s) : Tt (world_World_tick_bx (some W)) (fun r => ∃ W', r = some W' ∧ Ticked s W') := by
  obtain ⟨d1, d2, k1, k2, q1, q2, m1, m2⟩ := hs
  obtain ⟨ca, ha, hca⟩ : ∃ c, W.sides.a0 = some c ∧ seenC c = (1000, 0, 0, 0, true, bk 0 0) := ⟨_, h.s0, seenN⟩
  obtain ⟨cb, hb, hcb⟩ := sideOf h.s1
  obtain ⟨ca', ra, hra⟩ := rise_val hca (by decide) (by decide) (n := 1) (by decide) (by decide)
  obtain ⟨cb', rb, hrb⟩ := rise_val hcb (by omega) (by omega) (n := 1) (by decide) (by decide)
  unfold world_World_tick_bx
  rw [Option.bind_some, ha, hb, ra, Option.bind_some, rb, Option.bind_some, corrupt_val (by decide)]
  have any : ∀ {x : Option Bool} {f : Bool → Option A4_bool}, (∃ b, x = some b) → (∀ b, ∃ r, f b = some r) → Tt (Option.bind x f) (fun _ => True) := fun ⟨b, hb⟩ hf => by
    subst hb
    obtain ⟨r, hr⟩ := hf b
    exact ⟨r, hr, trivial⟩
  have one : ∀ {c : Bool} {b : Bool}, ∃ r, (if c = true then some b else some false) = some r := fun {c b} => by cases c <;> exact ⟨_, rfl⟩
  have two : ∀ {x y : A4_bool} (b : Bool), ∃ r, (if b = true then some x else some y) = some r := fun {x y} b => by cases b <;> exact ⟨_, rfl⟩
  refine .bind (any (by rw [Option.bind_some]; exact one) two) fun l1 _ => ?_
  rw [corrupt_val (by decide)]
  refine .bind (any (by rw [Option.bind_some]; exact one) two) fun l2 _ => ?_
  rw [corrupt_val (by decide)]
  refine .bind (any (by rw [Option.bind_some]; exact one) two) fun l3 _ => ?_
  rw [corrupt_val (by decide)]
  refine .bind (any (by rw [Option.bind_some]; exact one) two) fun l4 _ => ?_
  rw [h.since, Option.bind_some]
  refine .grd rfl (.pure ⟨_, rfl, rfl, ?_, ?_, ?_⟩)
  · show IntKind.i64.wrap (W.now + 1) = 1
    rw [h.now]; rfl
  · exact congrArg some hra
  · refine congrArg some (hrb.trans ?_)
    have e : 1000 + s.Skew + 1 = 1001 + s.Skew := by omega
    rw [e]
theorem alive24 : narrowslaw24_alive = some true := by
  have ho : okS' ⟨1, 0, 0, 9000⟩ := by unfold okS'; decide
  obtain ⟨r, hr, h0, W, hW, hm⟩ := New_ok ho
  obtain ⟨o, htk, W', rfl, ht⟩ := tick_ok hm ho
  have b2 : bit ⟨1, 0, 0, 9000⟩ 2 = false := by kernel_rfl
  have b3 : bit ⟨1, 0, 0, 9000⟩ 3 = false := by kernel_rfl
  have key : Tt narrowslaw24_alive (fun r => r = true) := by
    unfold narrowslaw24_alive
    rw [hr, Option.bind_some, h0, hW]
    refine .thn (.ite (fun h => by cases h) fun _ => ?_)
    unfold world_World_Step_bx
    rw [(wis_some hm.since).1, Option.bind_some, if_neg (by decide), if_pos (by decide), htk, Option.bind_some, Option.bind_some]
    unfold world_World_Now_bx
    rw [(wis_some ht.since).1, Option.bind_some, if_neg (by decide), Option.bind_some, ht.now, Option.bind_some, if_pos (by decide)]
    unfold world_World_Mail_bx
    rw [(wis_some ht.since).1, Option.bind_some, if_neg (by decide), Option.bind_some]
    have hmail : grd (okS (net_Twin_nil 0).length none (some 0) none) (some (slc (net_Twin_nil 0) 0 (0 : Int).toNat)) = some ([] : List api_Mail) := by
      rw [grd_pos (by unfold okS; simp)]
      unfold slc
      simp
    rw [hmail, Option.bind_some, if_pos (by decide), Option.bind_some]
    have s0 : world_World_Side_k0 W' = 1 := by
      unfold world_World_Side_k0 world_within
      rw [(wis_some ht.since).2]; rfl
    have s1 : world_World_Side_k1 W' = 1 := by
      unfold world_World_Side_k1 world_within
      rw [(wis_some ht.since).2]; rfl
    obtain ⟨ca, ha, hca⟩ := sideOf ht.s0
    obtain ⟨cb, hb, hcb⟩ := sideOf ht.s1
    rw [b2, b3] at hcb
    obtain ⟨l, hl, hle⟩ := events_val hcb (by decide)
    rw [grd_pos (by rw [s0]; decide), ha, time_val hca, Option.bind_some, if_pos (by decide), grd_pos (by rw [s1]; decide), hb, hl, Option.bind_some, Option.bind_some]
    refine .pure ?_
    rw [decide_eq_true_iff, hle]
    rfl
  obtain ⟨r, hr, rfl⟩ := key
  exact hr
theorem band01 (x : Int) : bandK .i64 x 1 = 0 ∨ bandK .i64 x 1 = 1 := by
  have h : ((BitVec.ofInt 64 x &&& BitVec.ofInt 64 1).toNat) = (BitVec.ofInt 64 x).toNat % 2 := by
    rw [BitVec.toNat_and]
    exact Nat.and_one_is_mod _
  have hb : bandK .i64 x 1 = IntKind.i64.wrap (((BitVec.ofInt 64 x &&& BitVec.ofInt 64 1).toNat : Nat) : Int) := rfl
  rw [hb, h]
  have : (BitVec.ofInt 64 x).toNat % 2 = 0 ∨ (BitVec.ofInt 64 x).toNat % 2 = 1 := by omega
  rcases this with h | h <;> rw [h]
  · exact .inl rfl
  · exact .inr rfl
theorem nbit (s : world_Setup) (n : Int) : decide ((bandK .i64 (shrK .i64 s.Corrupt n) 1) = 0) = !bit s n := by
  unfold bit
  rcases band01 (shrK .i64 s.Corrupt n) with h | h <;> rw [h] <;> rfl
theorem of2 (x y : UInt64) : purse_Book_Of (bk x y) 2 0 = some ⟨x, 0, 0, 0⟩ ∧ purse_Book_Of (bk x y) 2 1 = some ⟨x, 0, 0, 0⟩ := ⟨by kernel_rfl, by kernel_rfl⟩
theorem of3 (x y : UInt64) : purse_Book_Of (bk x y) 3 0 = some ⟨y, 0, 0, 0⟩ ∧ purse_Book_Of (bk x y) 3 1 = some ⟨y, 0, 0, 0⟩ := ⟨by kernel_rfl, by kernel_rfl⟩
theorem WorldMade_true (s : world_Setup) (n : Int) : ∃ r, narrowslaw24_WorldMade s n = some r ∧ r = true := by
  show Tt _ (fun r => r = true)
  unfold narrowslaw24_WorldMade
  rw [alive24, Option.bind_some, if_neg (by decide)]
  have hodd : (if (decide (s.Delay < 1)) = true then true else (if (decide (s.Delay > 4)) = true then true else (if (decide (s.Skew < (-100))) = true then true else (if (decide (s.Skew > 100)) = true then true else (if (decide (s.Corrupt < 0)) = true then true else (if (decide (s.Corrupt > 31)) = true then true else (if (decide (s.Room < 0)) = true then true else (decide (s.Room > 65536))))))))) = odd s := by
    unfold odd
    have : decide (s.Corrupt > 31) = decide (s.Corrupt ≥ 32) := decide_eq_decide.2 (by omega)
    rw [this]
  rw [hodd]
  by_cases hs : okS' s
  case neg =>
    have ho : odd s = true := by
      cases hb : odd s with
      | true => rfl
      | false => exact absurd (odd_iff.1 hb) hs
    rw [New_bad hs, Option.bind_some, ho]
    exact .pure rfl
  obtain ⟨r, hr, h0, W, hW, hm⟩ := New_ok hs
  rw [hr, Option.bind_some, odd_iff.2 hs, h0, hW]
  refine .thn (.ite (fun h => by cases h) fun _ => ?_)
  rw [Option.bind_some]
  have hi := (wis_some hm.since).2
  have hC : world_World_Client W n = some (if n = 0 then 1 else if n = 1 then 2 else 0) := by
    unfold world_World_Client world_World_client
    rw [hi, if_neg (by decide)]
    by_cases a0 : n = 0
    · subst a0; rfl
    by_cases a1 : n = 1
    · subst a1; rfl
    have hc : (if (decide (n < 0)) = true then true else (decide (n ≥ 2))) = true := by
      by_cases h : n < 0
      · simp [h]
      · simp [h]; omega
    simp only [thn, hc, if_true, Option.bind_some, a0, a1, if_false]
  have hR : world_World_Router W n = some (if n = 2 then 1 else if n = 3 then 2 else 0) := by
    unfold world_World_Router world_World_router
    rw [hi, if_neg (by decide)]
    by_cases a0 : n = 2
    · subst a0; rfl
    by_cases a1 : n = 3
    · subst a1; rfl
    have hc : (if (decide (n < 2)) = true then true else (decide (n ≥ 4))) = true := by
      by_cases h : n < 2
      · simp [h]
      · simp [h]; omega
    simp only [thn, hc, if_true, Option.bind_some, a0, a1, if_false]
  have hL : world_World_Late W n = some false := by
    unfold world_World_Late
    rw [hi, hm.late]
    by_cases h : world_within n 4 = true
    · have hw : 0 ≤ n ∧ n < 4 := by
        unfold world_within thn at h
        by_cases q : n ≥ 0
        · simp [q] at h; exact ⟨q, h⟩
        · simp [q] at h
      have : n = 0 ∨ n = 1 ∨ n = 2 ∨ n = 3 := by omega
      rw [h]
      rcases this with rfl | rfl | rfl | rfl <;> rfl
    · rw [if_pos rfl, if_neg h]; rfl
  have hF : world_World_Forged W = false := by unfold world_World_Forged; rw [hi, hm.forged]; rfl
  have hX : world_World_Clash W = false := by unfold world_World_Clash; rw [hi, hm.clash]; rfl
  have hS : world_World_Setup W = s := by unfold world_World_Setup; rw [hi, hm.setup]; rfl
  rw [hC, Option.bind_some, hR, Option.bind_some, hL, hF, hX, hS, hm.k0, hm.k1, hm.r0, hm.r1]
  simp only [Option.bind_some, Bool.false_eq_true, if_false, ne_eq, not_true_eq_false, decide_false]
  refine .thn' fun y43 hy => ?_
  refine .bind (P := fun y => y = false) ?_ fun y hyf => ?_
  · have cs : n = 0 ∨ n = 1 ∨ n = 2 ∨ n = 3 ∨ n < 0 ∨ n > 3 := by omega
    have u0 : ((Ui (if (0 : Int) > 0 then 0 else 0)).toNat : Int) = 0 := rfl
    have u1 : ((Ui (if (0 : Int) > 1 then 0 else 1)).toNat : Int) = 1 := rfl
    have u2 : ((Ui (if (0 : Int) > 2 then 0 else 2)).toNat : Int) = 2 := rfl
    have u3 : ((Ui (if (0 : Int) > 3 then 0 else 3)).toNat : Int) = 3 := rfl
    rcases cs with rfl | rfl | rfl | rfl | h | h
    · rw [u0, nbit] at hy
      have hy : (!bit s 0) = y43 := hy
      subst hy
      cases bit s 0 <;> exact .pure rfl
    · rw [u1, nbit] at hy
      have hy : (!bit s 1) = y43 := hy
      subst hy
      cases bit s 1 <;> exact .pure rfl
    · rw [u2, nbit] at hy
      have hy : (!bit s 2) = y43 := hy
      subst hy
      cases bit s 2 <;> exact .pure rfl
    · rw [u3, nbit] at hy
      have hy : (!bit s 3) = y43 := hy
      subst hy
      cases bit s 3 <;> exact .pure rfl
    · have e0 : n ≠ 0 := by omega
      have e1 : n ≠ 1 := by omega
      have e2 : n ≠ 2 := by omega
      have e3 : n ≠ 3 := by omega
      have hg : ¬ n ≥ 0 := by omega
      simp only [hg, decide_false, Bool.false_eq_true, if_false] at hy
      subst hy
      simp only [e0, e1, e2, e3, if_false]
      exact .pure rfl
    · have e0 : n ≠ 0 := by omega
      have e1 : n ≠ 1 := by omega
      have e2 : n ≠ 2 := by omega
      have e3 : n ≠ 3 := by omega
      have hg : ¬ n ≤ 3 := by omega
      simp only [hg, decide_false, Bool.false_eq_true, if_false, ite_self] at hy
      subst hy
      simp only [e0, e1, e2, e3, if_false]
      exact .pure rfl
  subst hyf
  simp only [Bool.false_eq_true, if_false]
  clear hy
  obtain ⟨d1, d2, k1, k2, q1, q2, m1, m2⟩ := hs
  obtain ⟨cb, hb, hcb⟩ := sideOf hm.s1
  have s0 : world_World_Side_k0 W = 1 := by
    unfold world_World_Side_k0 world_within
    rw [hi]; rfl
  have s1 : world_World_Side_k1 W = 1 := by
    unfold world_World_Side_k1 world_within
    rw [hi]; rfl
  refine Tt.loopW (S := fun r : Bool => r = true) (fun k s => s = 4 - (k : Int) ∧ k ≤ 2) (fun _ => True) 2 ⟨rfl, by decide⟩ ?_ ?_
  · rintro k m ⟨rfl, hk⟩
    have cs : k = 0 ∨ k = 1 ∨ k = 2 := by omega
    refine .ite (fun hq => ?_) fun hq => .pure trivial
    rw [decide_eq_true_iff] at hq
    have fin : ∀ (x : UInt64) (i : Int), 0 ≤ i → k = (4 - i).toNat → i ≤ 3 → x = (if bit s i then 0 else 400) → (∀ v, v = bk (if bit s 2 then 0 else 400) (if bit s 3 then 0 else 400) → purse_Book_Of v i 0 = some ⟨x, 0, 0, 0⟩ ∧ purse_Book_Of v i 1 = some ⟨x, 0, 0, 0⟩) →
        Tt (grd (world_World_Side_k1 W ≠ 0) (Option.bind (chain_Chain_State_bx W.sides.a1) fun r104 => Option.bind (Option.bind (purse_Book_Of r104.Vault i 0) fun r111 => if (decide ((r111 : api_Wide) ≠ (⟨x, 0, 0, 0⟩ : api_Wide))) = true then (some true) else (Option.bind (purse_Book_Of r104.Vault i 1) fun r114 => some (decide ((r114 : api_Wide) ≠ (⟨x, 0, 0, 0⟩ : api_Wide))))) fun (y108 : Bool) => if y108 = true then (Option.map Ct.rt (some false)) else (some (.nx (IntKind.i64.wrap (i + 1))))))
        (CtP (fun s' => ∃ m, m < k ∧ s' = 4 - (m : Int) ∧ m ≤ 2) (fun _ => True) (fun r : Bool => r = true)) := by
      intro x i hi0 hki hi3 hx ho
      refine .grd (by rw [s1]; decide) ?_
      rw [hb]
      refine .bind (state_val hcb (by omega) (by omega)) fun st hst => ?_
      obtain ⟨o1, o2⟩ := ho _ hst
      rw [o1, Option.bind_some, if_neg (by simp), o2, Option.bind_some, Option.bind_some, if_neg (by simp)]
      refine .pure ⟨k - 1, by omega, ?_, by omega⟩
      rw [wrap64 (by omega) (by omega)]
      omega
    rcases cs with rfl | rfl | rfl
    · omega
    · have e : (4 : Int) - ((1 : Nat) : Int) = 3 := rfl
      rw [e]
      have u : ((Ui (3 : Int)).toNat : Int) = 3 := rfl
      rw [u]
      refine .thn' fun x hx => fin x 3 (by decide) rfl (by decide) (by rw [← hx]; rfl) ?_
      rintro v rfl
      rw [← hx]
      exact of3 _ _
    · have e : (4 : Int) - ((2 : Nat) : Int) = 2 := rfl
      rw [e]
      have u : ((Ui (2 : Int)).toNat : Int) = 2 := rfl
      rw [u]
      refine .thn' fun x hx => fin x 2 (by decide) rfl (by decide) (by rw [← hx]; rfl) ?_
      rintro v rfl
      rw [← hx]
      exact of2 _ _
  · intro m _
    have t0 : chain_Chain_Time_bx W.sides.a0 = some 1000 := by rw [hm.s0]; exact time_val seenN
    have t1 : chain_Chain_Time_bx W.sides.a1 = some (1000 + s.Skew) := by rw [hb]; exact time_val hcb
    have k2' : world_World_Side_k2 W = some none := by
      unfold world_World_Side_k2 world_within
      rw [hi]; rfl
    have km : world_World_Side_km1 W = some none := by
      unfold world_World_Side_km1 world_within
      rw [hi]; rfl
    rw [if_pos (by decide), grd_pos (by rw [s0]; decide), t0, Option.bind_some, if_pos (by decide), grd_pos (by rw [s1]; decide), t1, Option.bind_some, wrap64 (by omega) (by omega), if_pos (by simp), k2', Option.bind_some, if_pos (show (none : Option chain_Chain).isNone = true from rfl), km]
    exact .pure rfl
end Go.Sl
