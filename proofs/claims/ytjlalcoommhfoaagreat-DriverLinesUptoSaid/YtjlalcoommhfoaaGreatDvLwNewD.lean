/- A new world: what it has. -/
import Derived.Test.YtjlalcoommhfoaaGreatDvLwRoot
set_option linter.unusedVariables false
set_option linter.unusedSimpArgs false
namespace Go.Sl
/-- The receiving side at first. -/
noncomputable def cS (T : Int) : chain_Chain := ⟨⟨1, T, purse_Even 1000, ⟨⟨⟨0, 0, 0, 0⟩, ⟨0, 0, 0, 0⟩⟩, ⟨⟨0, 0, 0, 0⟩, ⟨0, 0, 0, 0⟩⟩, ⟨⟨0, 0, 0, 0⟩, ⟨0, 0, 0, 0⟩⟩, ⟨⟨0, 0, 0, 0⟩, ⟨0, 0, 0, 0⟩⟩, ⟨⟨0, 0, 0, 0⟩, ⟨0, 0, 0, 0⟩⟩, ⟨⟨0, 0, 0, 0⟩, ⟨0, 0, 0, 0⟩⟩, ⟨⟨0, 0, 0, 0⟩, ⟨0, 0, 0, 0⟩⟩, ⟨⟨0, 0, 0, 0⟩, ⟨0, 0, 0, 0⟩⟩⟩, ⟨0, 0, 0, 0, 0, 0, 0, 0⟩, ⟨⟨0, 0, 0, 0⟩, ⟨0, 0, 0, 0⟩⟩, ⟨0, 0, 0, 0⟩, []⟩, [], [], true⟩
/-- Is a party corrupt? -/
def bit (s : world_Setup) (n : Int) : Bool := decide ((bandK .i64 (shrK .i64 s.Corrupt n) 1) = 1)
theorem corrupt_val {W : world_World} {n : Int} (h : 0 ≤ n) : world_World_corrupt W n = some (bit W.setup n) := by
  unfold world_World_corrupt bit
  rw [grd_pos h]
def okSu (s : world_Setup) : Prop := 1 ≤ s.Delay ∧ s.Delay ≤ 4 ∧ -100 ≤ s.Skew ∧ s.Skew ≤ 100 ∧ 0 ≤ s.Corrupt ∧ s.Corrupt ≤ 31 ∧ 0 ≤ s.Room ∧ s.Room ≤ 65536
theorem seed_ok {n : Int} : ∃ r, bid_Seed n = some r ∧ r.size = 7 := by
  unfold bid_Seed
  exact Tt.grd (Q := fun r : ByteArray => r.size = 7) (Nat.le_of_ble_eq_true rfl) (.pure rfl)
theorem chain1 {k : Int} (h1 : -100 ≤ k) (h2 : k ≤ 100) : chain_New 1 (IntKind.i64.wrap (1000 + k)) = cS (1000 + k) := by
  rw [wrap64 (by omega) (by omega)]
  unfold chain_New escrow_Genesis cS
  rw [if_neg (show ¬ ((1 : Int) < if (0 : Int) > 1 then 0 else 1) by decide), if_neg (show ¬ ((0 : Int) > 1) by decide), if_neg (show ¬ ((0 : Int) > 1000 + k) by omega), if_neg (show ¬ ((1099511627776 : Int) < 1000 + k) by omega)]
/-- The test of a setup. -/
def odd (s : world_Setup) : Bool := (if (decide (s.Delay < 1)) = true then true else (if (decide (s.Delay > 4)) = true then true else (if (decide (s.Skew < (-100))) = true then true else (if (decide (s.Skew > 100)) = true then true else (if (decide (s.Corrupt < 0)) = true then true else (if (decide (s.Corrupt ≥ 32)) = true then true else (if (decide (s.Room < 0)) = true then true else (decide (s.Room > 65536)))))))))
theorem odd_iff {s : world_Setup} : odd s = false ↔ okSu s := by
  unfold odd okSu
  by_cases h1 : s.Delay < 1; · simp [h1]; omega
  by_cases h2 : s.Delay > 4; · simp [h2]; omega
  by_cases h3 : s.Skew < -100; · simp [h3]; omega
  by_cases h4 : s.Skew > 100; · simp [h4]; omega
  by_cases h5 : s.Corrupt < 0; · simp [h5]; omega
  by_cases h6 : s.Corrupt ≥ 32; · simp [h6]; omega
  by_cases h7 : s.Room < 0; · simp [h7]; omega
  simp [h1, h2, h3, h4, h5, h6, h7]; omega
theorem New_bad {s : world_Setup} (h : ¬ okSu s) : world_New s = some (none, 4) := by
  have ho : odd s = true := by
    cases hb : odd s with
    | true => rfl
    | false => exact absurd (odd_iff.1 hb) h
  unfold odd at ho
  unfold world_New
  rw [ho]
  rfl
/-- A world where all are corrupted. -/
theorem New31 : ∃ W : world_World, world_New ⟨1, 0, 31, 0⟩ = some (some W, 0) ∧ W.sides = ⟨some (chain_New 0 1000), some (cS 1000)⟩ ∧ W.clients = ⟨none, none⟩ ∧ W.routers = ⟨none, none⟩ ∧ W.now = 0 ∧ W.since = some [] := by
  have ho : odd ⟨1, 0, 31, 0⟩ = false := by decide
  unfold odd at ho
  have key : Tt (world_New ⟨1, 0, 31, 0⟩) (fun r => ∃ W : world_World, r = (some W, 0) ∧ W.sides = ⟨some (chain_New 0 1000), some (cS 1000)⟩ ∧ W.clients = ⟨none, none⟩ ∧ W.routers = ⟨none, none⟩ ∧ W.now = 0 ∧ W.since = some []) := by
    unfold world_New
    rw [ho]
    refine .thn (.ite (fun h => by cases h) fun _ => ?_)
    have hc : chain_New 1 (IntKind.i64.wrap (1000 + 0)) = cS 1000 := chain1 (k := 0) (by decide) (by decide)
    rw [hc]
    have b : ∀ n : Int, n = 0 ∨ n = 1 ∨ n = 2 ∨ n = 3 ∨ n = 4 → bit ⟨1, 0, 31, 0⟩ n = true := fun n h => by rcases h with rfl | rfl | rfl | rfl | rfl <;> kernel_rfl
    refine .bind (P := fun y => y.1 = ⟨1, 0, 31, 0⟩ ∧ y.2.1 = ⟨some (chain_New 0 1000), some (cS 1000)⟩ ∧ y.2.2.1 = none ∧ y.2.2.2.1 = 0 ∧ y.2.2.2.2.2.2.1 = some [] ∧ y.2.2.2.2.2.2.2.2.2.2.2.2.2.length = 1) ?_ fun y hy => ?_
    · obtain ⟨sd, hs, hl⟩ := seed_ok (n := 2)
      obtain ⟨r, hr, _⟩ := Root_spec (s := sd) (by omega)
      rw [hs, Option.bind_some, hr, Option.bind_some, corrupt_val (by decide), Option.bind_some]
      dsimp only
      rw [b 2 (by simp)]
      exact .pure ⟨rfl, rfl, rfl, rfl, rfl, rfl⟩
    obtain ⟨y1, y2, y3, y4, y5, y6, y7, y8, y9, y10, y11, y12, y13, y14⟩ := y
    dsimp only at hy ⊢
    obtain ⟨rfl, rfl, rfl, rfl, rfl, hroots⟩ := hy
    refine .bind (P := fun z => z.1 = ⟨1, 0, 31, 0⟩ ∧ z.2.1 = ⟨some (chain_New 0 1000), some (cS 1000)⟩ ∧ z.2.2.1 = ⟨none, none⟩ ∧ z.2.2.2.1 = 0 ∧ z.2.2.2.2.2.2.1 = some []) ?_ fun z hz => ?_
    · obtain ⟨sd, hs, hl⟩ := seed_ok (n := 3)
      obtain ⟨r, hr, _⟩ := Root_spec (s := sd) (by omega)
      rw [hs, Option.bind_some, hr, Option.bind_some, corrupt_val (by decide)]
      refine .grd (by simp [hroots]) ?_
      rw [Option.bind_some]
      dsimp only
      rw [b 3 (by simp)]
      exact .pure ⟨rfl, rfl, rfl, rfl, rfl⟩
    obtain ⟨z1, z2, z3, z4, z5, z6, z7, z8, z9, z10, z11, z12, z13, z14⟩ := z
    dsimp only at hz ⊢
    obtain ⟨rfl, rfl, rfl, rfl, rfl⟩ := hz
    refine .bind (P := fun c => c = none) ?_ fun ca hca => ?_
    · rw [corrupt_val (by decide), Option.bind_some]
      dsimp only
      rw [b 0 (by simp)]
      exact .pure rfl
    subst hca
    refine .bind (P := fun c => c = none) ?_ fun cb hcb => ?_
    · rw [corrupt_val (by decide), Option.bind_some]
      dsimp only
      rw [b 1 (by simp)]
      exact .pure rfl
    subst hcb
    refine .bind (P := fun _ => True) ?_ fun rl hl => .pure ⟨_, rfl, rfl, rfl, rfl, rfl, rfl⟩
    rw [corrupt_val (by decide), Option.bind_some]
    exact .ite (fun _ => .pure trivial) fun _ => .pure trivial
  obtain ⟨r, hr, W, rfl, h⟩ := key
  exact ⟨W, hr, h⟩
end Go.Sl
