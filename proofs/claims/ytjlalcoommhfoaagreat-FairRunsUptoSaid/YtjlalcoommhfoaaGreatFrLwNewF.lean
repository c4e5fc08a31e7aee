/- A new world: what it has. -/
import Derived.Test.YtjlalcoommhfoaaGreatFrLwRoot
set_option linter.unusedVariables false
set_option linter.unusedSimpArgs false
namespace Go.Sl
/-! ### A router's vault is filled -/
noncomputable def two (c : Option chain_Chain) (n : Int) : Option (Option chain_Chain) :=
  Option.bind (chain_Chain_Submit_bx c (⟨n, 0, 2, 0, (wide_Of 400), ⟨0, ⟨#[]⟩, n, 0, 0, 0, ⟨#[]⟩⟩, ⟨⟨0, 0, 0, 0⟩, 0⟩, ⟨0, 0, 0, 0⟩, ⟨#[]⟩⟩ : api_Tx)) fun r1 => Option.bind (chain_Chain_Include_bx r1.2 0) fun r3 => Option.bind (chain_Chain_Submit_bx r3.2 (⟨n, 1, 2, 1, (wide_Of 400), ⟨0, ⟨#[]⟩, n, 0, 0, 0, ⟨#[]⟩⟩, ⟨⟨0, 0, 0, 0⟩, 0⟩, ⟨0, 0, 0, 0⟩, ⟨#[]⟩⟩ : api_Tx)) fun r5 => Option.bind (chain_Chain_Include_bx r5.2 0) fun r7 => some r7.2
theorem fill_two (W : world_World) (n : Int) : world_World_fill W n = (two W.sides.a1 n).bind fun c => some (⟨W.setup, ⟨W.sides.a0, c⟩, W.clients, W.routers, W.relay, W.mail, W.now, W.seen, W.late, W.since, W.told, W.keys, W.digests, W.asked, W.forged, W.clash⟩ : world_World) := by
  unfold world_World_fill two
  simp only [Option.bind_assoc, Option.bind_some]
/-- The receiving side at first. -/
noncomputable def cS (T : Int) : chain_Chain := ⟨⟨1, T, purse_Even 1000, ⟨⟨⟨0, 0, 0, 0⟩, ⟨0, 0, 0, 0⟩⟩, ⟨⟨0, 0, 0, 0⟩, ⟨0, 0, 0, 0⟩⟩, ⟨⟨0, 0, 0, 0⟩, ⟨0, 0, 0, 0⟩⟩, ⟨⟨0, 0, 0, 0⟩, ⟨0, 0, 0, 0⟩⟩, ⟨⟨0, 0, 0, 0⟩, ⟨0, 0, 0, 0⟩⟩, ⟨⟨0, 0, 0, 0⟩, ⟨0, 0, 0, 0⟩⟩, ⟨⟨0, 0, 0, 0⟩, ⟨0, 0, 0, 0⟩⟩, ⟨⟨0, 0, 0, 0⟩, ⟨0, 0, 0, 0⟩⟩⟩, ⟨0, 0, 0, 0, 0, 0, 0, 0⟩, ⟨⟨0, 0, 0, 0⟩, ⟨0, 0, 0, 0⟩⟩, ⟨0, 0, 0, 0⟩, []⟩, [], [], true⟩
noncomputable def c2 (T : Int) : Option chain_Chain := (two (some (cS T)) 2).getD none
noncomputable def c3 (T : Int) : Option chain_Chain := (two (some (cS T)) 3).getD none
noncomputable def c23 (T : Int) : Option chain_Chain := (two (c2 T) 3).getD none
theorem two2 (T : Int) : two (some (cS T)) 2 = some (c2 T) := by kernel_rfl
theorem two3 (T : Int) : two (some (cS T)) 3 = some (c3 T) := by kernel_rfl
theorem two23 (T : Int) : two (c2 T) 3 = some (c23 T) := by kernel_rfl
/-- What of a side is looked at. -/
def seenC (c : chain_Chain) : Int × Nat × Nat × Nat × Bool × purse_Book := (c.s.Time, c.s.Locks.length, c.pool.length, c.events.length, c.made, c.s.Vault)
def bk (x y : UInt64) : purse_Book := ⟨⟨⟨0, 0, 0, 0⟩, ⟨0, 0, 0, 0⟩⟩, ⟨⟨0, 0, 0, 0⟩, ⟨0, 0, 0, 0⟩⟩, ⟨⟨x, 0, 0, 0⟩, ⟨x, 0, 0, 0⟩⟩, ⟨⟨y, 0, 0, 0⟩, ⟨y, 0, 0, 0⟩⟩, ⟨⟨0, 0, 0, 0⟩, ⟨0, 0, 0, 0⟩⟩, ⟨⟨0, 0, 0, 0⟩, ⟨0, 0, 0, 0⟩⟩, ⟨⟨0, 0, 0, 0⟩, ⟨0, 0, 0, 0⟩⟩, ⟨⟨0, 0, 0, 0⟩, ⟨0, 0, 0, 0⟩⟩⟩
theorem seen0 (T : Int) : (some (cS T)).map seenC = some (T, 0, 0, 0, true, bk 0 0) := by kernel_rfl
theorem seen2 (T : Int) : (c2 T).map seenC = some (T, 0, 0, 2, true, bk 400 0) := by kernel_rfl
theorem seen3 (T : Int) : (c3 T).map seenC = some (T, 0, 0, 2, true, bk 0 400) := by kernel_rfl
theorem seen23 (T : Int) : (c23 T).map seenC = some (T, 0, 0, 4, true, bk 400 400) := by kernel_rfl
/-- Is a party corrupt? -/
def bit (s : world_Setup) (n : Int) : Bool := decide ((bandK .i64 (shrK .i64 s.Corrupt n) 1) = 1)
theorem corrupt_val {W : world_World} {n : Int} (h : 0 ≤ n) : world_World_corrupt W n = some (bit W.setup n) := by
  unfold world_World_corrupt bit
  rw [grd_pos h]
def okSu (s : world_Setup) : Prop := 1 ≤ s.Delay ∧ s.Delay ≤ 4 ∧ -100 ≤ s.Skew ∧ s.Skew ≤ 100 ∧ 0 ≤ s.Corrupt ∧ s.Corrupt ≤ 31 ∧ 0 ≤ s.Room ∧ s.Room ≤ 65536
/-! ### What does nothing yet -/
def IdleD (d : Option disk_Disk) : Prop := ∃ x, d = some x ∧ x.b = [] ∧ 0 ≤ x.room ∧ x.room ≤ 65536 ∧ x.made = true
def IdleC (o : Option client_Client) : Prop := ∀ c, o = some c → c.made = true ∧ c.down = false ∧ IdleD c.disk
def IdleR (o : Option router_Router) : Prop := ∀ c, o = some c → c.made = true ∧ c.down = false ∧ c.asks = [] ∧ IdleD c.disk
def IdleL (o : Option relay_Relay) : Prop := ∀ c, o = some c → c.jobs = []
def IdleS (o : Option chain_Chain) (T : Int) : Prop := ∃ c, o = some c ∧ c.s.Time = T ∧ c.s.Locks.length = 0 ∧ c.pool.length = 0 ∧ c.made = true
/-- A world where nothing is on its way, behind k rounds. -/
structure Idle (s : world_Setup) (k : Nat) (W : world_World) : Prop where
  setup : W.setup = s
  s0 : IdleS W.sides.a0 (1000 + k)
  s1 : IdleS W.sides.a1 (1000 + s.Skew + k)
  e0 : ∀ c, W.sides.a0 = some c → c.events.length = 0
  k0 : IdleC W.clients.a0
  k1 : IdleC W.clients.a1
  r0 : IdleR W.routers.a0
  r1 : IdleR W.routers.a1
  l : IdleL W.relay
  now : W.now = k
  since : W.since = some []
theorem disk_new (r : Int) : IdleD (some (disk_New r)) := by
  unfold disk_New
  refine ⟨_, rfl, rfl, ?_, ?_, rfl⟩
  · dsimp only; split <;> (try split) <;> omega
  · dsimp only; split <;> (try split) <;> omega
theorem idle_of {o : Option chain_Chain} {T : Int} {p : Nat × Bool × purse_Book} (h : o.map seenC = some (T, 0, 0, p)) (hm : p.2.1 = true) : IdleS o T := by
  cases o with
  | none => cases h
  | some c =>
    have := Option.some.inj h
    unfold seenC at this
    simp only [Prod.mk.injEq] at this
    obtain ⟨a, b, d, e⟩ := this
    subst e
    exact ⟨c, rfl, a, b, d, hm⟩
theorem seed_ok {n : Int} : ∃ r, bid_Seed n = some r ∧ r.size = 7 := by
  unfold bid_Seed
  exact Tt.grd (Q := fun r : ByteArray => r.size = 7) (Nat.le_of_ble_eq_true rfl) (.pure rfl)
theorem cseed_ok {n : Int} : ∃ r, client_Seed n = some r ∧ r.size = 5 := by
  unfold client_Seed
  exact Tt.grd (Q := fun r : ByteArray => r.size = 5) (Nat.le_of_ble_eq_true rfl) (.pure rfl)
theorem clone_str {l : List ByteArray} (h : l.length ≤ 1000) : slices_Clone_string l = some l := by
  unfold slices_Clone_string
  rw [grd_pos (by simp; omega)]
  rfl
theorem client_ok {n a b : Int} {l : List ByteArray} (h : l.length ≤ 1000) (hn : 0 ≤ n) (h2 : n < 2) : Tt (client_New n l a b) (fun r => IdleC r.1) := by
  have hc : (if (decide (n < 0)) = true then true else (decide (n ≥ 2))) = false := by
    rw [if_neg (by simpa using hn)]; simpa using h2
  unfold client_New
  obtain ⟨s, hs, hl⟩ := cseed_ok (n := n)
  obtain ⟨r, hr, _⟩ := Root_spec (s := s) (by omega)
  simp only [thn, hc, Bool.false_eq_true, if_false]
  rw [hs, Option.bind_some, hr, Option.bind_some, clone_str h, Option.bind_some]
  unfold auction_New
  rw [clone_str h, Option.bind_some, Option.bind_some]
  refine .pure fun c hc => ?_
  cases hc
  exact ⟨rfl, rfl, disk_new _⟩
theorem router_ok {n a b : Int} (hn : 2 ≤ n) (h2 : n < 4) : IdleR (router_New n a b).1 := by
  have hc : (if (decide (n < 2)) = true then true else (decide (n ≥ 4))) = false := by
    rw [if_neg (by simpa using hn)]; simpa using h2
  unfold router_New
  simp only [thn, hc, Bool.false_eq_true, if_false]
  intro c hc
  cases hc
  exact ⟨rfl, rfl, rfl, disk_new _⟩
theorem idleC0 : IdleC none := fun _ h => by cases h
theorem idleR0 : IdleR none := fun _ h => by cases h
theorem idleL0 : IdleL none := fun _ h => by cases h
theorem idleS0 : IdleS (some (chain_New 0 1000)) 1000 := idle_of (p := (0, true, bk 0 0)) (by kernel_rfl) rfl
theorem chain1 {k : Int} (h1 : -100 ≤ k) (h2 : k ≤ 100) : chain_New 1 (IntKind.i64.wrap (1000 + k)) = cS (1000 + k) := by
  rw [wrap64 (by omega) (by omega)]
  unfold chain_New escrow_Genesis cS
  rw [if_neg (show ¬ ((1 : Int) < if (0 : Int) > 1 then 0 else 1) by decide), if_neg (show ¬ ((0 : Int) > 1) by decide), if_neg (show ¬ ((0 : Int) > 1000 + k) by omega), if_neg (show ¬ ((1099511627776 : Int) < 1000 + k) by omega)]
/-- The test of a setup. -/
def odd (s : world_Setup) : Bool := (if (decide (s.Delay < 1)) = true then true else (if (decide (s.Delay > 4)) = true then true else (if (decide (s.Skew < (-100))) = true then true else (if (decide (s.Skew > 100)) = true then true else (if (decide (s.Corrupt < 0)) = true then true else (if (decide (s.Corrupt ≥ 32)) = true then true else (if (decide (s.Room < 0)) = true then true else (decide (s.Room > 65536)))))))))
theorem odd_iff {s : world_Setup} : odd s = false ↔ okSu s := by
  unfold odd okSu
  by_cases h1 : s.Delay < 1; · simp [h1]; omega
  by_cases h2 : s.Delay > 4; · simp [h2]; omega
  by_cases h3 : s.Skew < -100; · simp [h3]; omega
  by_cases h4 : s.Skew > 100; · simp [h4]; omega
  by_cases h5 : s.Corrupt < 0; · simp [h5]; omega
  by_cases h6 : s.Corrupt ≥ 32; · simp [h6]; omega
  by_cases h7 : s.Room < 0; · simp [h7]; omega
  simp [h1, h2, h3, h4, h5, h6, h7]; omega
theorem New_bad {s : world_Setup} (h : ¬ okSu s) : world_New s = some (none, 4) := by
  have ho : odd s = true := by
    cases hb : odd s with
    | true => rfl
    | false => exact absurd (odd_iff.1 hb) h
  unfold odd at ho
  unfold world_New
  rw [ho]
  rfl
theorem New_ok {s : world_Setup} (h : okSu s) : Tt (world_New s) (fun r => r.2 = 0 ∧ ∃ W, r.1 = some W ∧ Idle s 0 W) := by
  have ho := odd_iff.2 h
  unfold odd at ho
  obtain ⟨d1, d2, k1, k2, q1, q2, m1, m2⟩ := h
  unfold world_New
  rw [ho]
  refine .thn (.ite (fun h => by cases h) fun _ => ?_)
  rw [chain1 k1 k2]
  refine .bind (P := fun y => y.1 = s ∧ y.2.1 = ⟨some (chain_New 0 1000), if bit s 2 then some (cS (1000 + s.Skew)) else c2 (1000 + s.Skew)⟩ ∧ IdleR y.2.2.1 ∧ y.2.2.2.1 = 0 ∧ y.2.2.2.2.2.1 = ⟨false, false, false, false⟩ ∧ y.2.2.2.2.2.2.1 = some [] ∧ y.2.2.2.2.2.2.2.2.2.2.2.1 = false ∧ y.2.2.2.2.2.2.2.2.2.2.2.2.1 = false ∧ y.2.2.2.2.2.2.2.2.2.2.2.2.2.length = 1) ?_ fun y hy => ?_
  · obtain ⟨sd, hs, hl⟩ := seed_ok (n := 2)
    obtain ⟨r, hr, _⟩ := Root_spec (s := sd) (by omega)
    rw [hs, Option.bind_some, hr, Option.bind_some, corrupt_val (by decide), Option.bind_some]
    dsimp only
    cases hb : bit s 2 with
    | true => exact .pure ⟨rfl, rfl, idleR0, rfl, rfl, rfl, rfl, rfl, rfl⟩
    | false =>
      simp only [Bool.not_false, if_true]
      rw [fill_two]
      dsimp only
      rw [two2, Option.bind_some, Option.bind_some]
      exact .pure ⟨rfl, rfl, router_ok (by decide) (by decide), rfl, rfl, rfl, rfl, rfl, rfl⟩
  obtain ⟨y1, y2, y3, y4, y5, y6, y7, y8, y9, y10, y11, y12, y13, y14⟩ := y
  dsimp only at hy ⊢
  obtain ⟨rfl, rfl, hr0, rfl, rfl, rfl, rfl, rfl, hroots⟩ := hy
  refine .bind (P := fun z => z.1 = y1 ∧ z.2.1.a0 = some (chain_New 0 1000) ∧ z.2.1.a1.map seenC = some (1000 + y1.Skew, 0, 0, (if bit y1 2 then 0 else 2) + (if bit y1 3 then 0 else 2), true, bk (if bit y1 2 then 0 else 400) (if bit y1 3 then 0 else 400)) ∧ IdleR z.2.2.1.a0 ∧ IdleR z.2.2.1.a1 ∧ z.2.2.2.1 = 0 ∧ z.2.2.2.2.2.1 = ⟨false, false, false, false⟩ ∧ z.2.2.2.2.2.2.1 = some [] ∧ z.2.2.2.2.2.2.2.2.2.2.2.1 = false ∧ z.2.2.2.2.2.2.2.2.2.2.2.2.1 = false ∧ z.2.2.2.2.2.2.2.2.2.2.2.2.2.length = 2) ?_ fun z hz => ?_
  · obtain ⟨sd, hs, hl⟩ := seed_ok (n := 3)
    obtain ⟨r, hr, _⟩ := Root_spec (s := sd) (by omega)
    rw [hs, Option.bind_some, hr, Option.bind_some, corrupt_val (by decide)]
    refine .grd (by simp [hroots]) ?_
    rw [Option.bind_some]
    dsimp only
    cases hb : bit y1 3 with
    | true =>
      refine .pure ⟨rfl, rfl, ?_, hr0, idleR0, rfl, rfl, rfl, rfl, rfl, by simp [hroots]⟩
      dsimp only
      cases hb2 : bit y1 2 with
      | true => exact seen0 _
      | false => exact seen2 _
    | false =>
      simp only [Bool.not_false, if_true]
      rw [fill_two]
      dsimp only
      cases hb2 : bit y1 2 with
      | true =>
        simp only [if_true]
        rw [two3, Option.bind_some, Option.bind_some]
        exact .pure ⟨rfl, rfl, seen3 _, hr0, router_ok (by decide) (by decide), rfl, rfl, rfl, rfl, rfl, by simp [hroots]⟩
      | false =>
        simp only [Bool.false_eq_true, if_false]
        rw [two23, Option.bind_some, Option.bind_some]
        exact .pure ⟨rfl, rfl, seen23 _, hr0, router_ok (by decide) (by decide), rfl, rfl, rfl, rfl, rfl, by simp [hroots]⟩
  obtain ⟨z1, z2, z3, z4, z5, z6, z7, z8, z9, z10, z11, z12, z13, z14⟩ := z
  dsimp only at hz ⊢
  obtain ⟨rfl, hz0, hz1, hra, hrb, rfl, rfl, rfl, rfl, rfl, hrt⟩ := hz
  refine .bind (P := fun c => IdleC c) ?_ fun ca hca => ?_
  · rw [corrupt_val (by decide), Option.bind_some]
    dsimp only
    cases hb : bit z1 0 with
    | true => exact .pure idleC0
    | false => exact .bind (client_ok (by omega) (by decide) (by decide)) fun r hr => .pure hr
  refine .bind (P := fun c => IdleC c) ?_ fun cb hcb => ?_
  · rw [corrupt_val (by decide), Option.bind_some]
    dsimp only
    cases hb : bit z1 1 with
    | true => exact .pure idleC0
    | false => exact .bind (client_ok (by omega) (by decide) (by decide)) fun r hr => .pure hr
  refine .bind (P := fun l => IdleL l) ?_ fun rl hl => .pure ⟨rfl, _, rfl, ⟨rfl, ?_, ?_, ?_, hca, hcb, hra, hrb, hl, rfl, rfl⟩⟩
  · rw [corrupt_val (by decide), Option.bind_some]
    exact .ite (fun _ => .pure fun c hc => by cases hc; kernel_rfl) fun _ => .pure idleL0
  · dsimp only; rw [hz0]; exact idleS0
  · have := idle_of hz1 rfl
    rw [show (1000 + z1.Skew + ((0 : Nat) : Int)) = 1000 + z1.Skew by omega]
    exact this
  · intro c hc
    dsimp only at hc
    rw [hz0] at hc
    cases hc
    kernel_rfl
end Go.Sl
