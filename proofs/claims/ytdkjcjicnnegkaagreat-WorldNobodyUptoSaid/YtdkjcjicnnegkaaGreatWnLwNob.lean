/- Of a world that nobody made nothing is told; steps of another kind change nothing. -/
import Derived.Test.YtdkjcjicnnegkaaGreatWnLwTick
set_option linter.unusedVariables false
set_option linter.unusedSimpArgs false
namespace Go.Sl
theorem nobody (x : api_Step) : world_World_Step_bx none x = some none := by kernel_rfl
theorem pool0 : chain_Chain_Pool_bx (some (chain_New 0 1000)) = some [] := by kernel_rfl
theorem WorldNobody_true (x : api_Step) (kind : Int) (_ : x.Data.length ≤ 1048576) : ∃ r, narrowslaw24_WorldNobody x kind = some r ∧ r = true := by
  show Tt _ (fun r => r = true)
  unfold narrowslaw24_WorldNobody
  rw [alive24, Option.bind_some, if_neg (by decide), nobody, Option.bind_some]
  refine .bind (P := fun y => y = false) ⟨false, by kernel_rfl, rfl⟩ fun y hy => ?_
  subst hy
  rw [if_neg (by decide)]
  refine .bind (P := fun r => r = (⟨⟨0, 0, 0, 0⟩, ⟨none, none⟩, ⟨none, none⟩, ⟨none, none⟩, none, (), 0, ⟨0, 0, 0, 0⟩, ⟨false, false, false, false⟩, none, none, none, none, ⟨0, 0⟩, false, false⟩ : world_World)) ⟨_, by kernel_rfl, rfl⟩ fun r hr => ?_
  subst hr
  refine .bind (P := fun y => y = false) ⟨false, by kernel_rfl, rfl⟩ fun y hy => ?_
  subst hy
  rw [if_neg (by decide)]
  refine .thn' fun k hk => ?_
  have hk' : ¬ (1 ≤ k ∧ k ≤ 13) := by
    simp only [thn] at hk
    by_cases h1 : kind ≥ 1
    · by_cases h2 : kind ≤ 13
      · simp [h1, h2] at hk; omega
      · simp [h1, h2] at hk; omega
    · simp [h1] at hk; omega
  clear hk
  have ho : okSu ⟨1, 0, 31, 0⟩ := by unfold okSu; decide
  obtain ⟨r, hr, h0, W, hW, hm⟩ := New_ok ho
  have hi := wis_some hm.since
  rw [hr, Option.bind_some, h0, hW]
  have hstep : world_World_Step_bx (some W) (⟨k, x.A, x.B, x.C, x.Data⟩ : api_Step) = some (some W) := by
    unfold world_World_Step_bx
    rw [hi.1, Option.bind_some, if_neg (by decide)]
    have n : ∀ m : Int, 1 ≤ m → m ≤ 13 → decide (k = m) = false := fun m h1 h2 => decide_eq_false (by omega)
    simp only [n 1 (by decide) (by decide), n 2 (by decide) (by decide), n 3 (by decide) (by decide), n 4 (by decide) (by decide), n 5 (by decide) (by decide), n 6 (by decide) (by decide), n 7 (by decide) (by decide), n 8 (by decide) (by decide), n 9 (by decide) (by decide), n 10 (by decide) (by decide), n 11 (by decide) (by decide), n 12 (by decide) (by decide), n 13 (by decide) (by decide), Bool.false_eq_true, if_false, thn]
  rw [hstep, Option.bind_some]
  have hnow : world_World_Now_bx (some W) = some 0 := by
    unfold world_World_Now_bx
    rw [hi.1, Option.bind_some, if_neg (by decide), Option.bind_some, hm.now]
  have hmail : world_World_Mail_bx (some W) = some [] := by
    unfold world_World_Mail_bx
    rw [hi.1, Option.bind_some, if_neg (by decide), Option.bind_some, grd_pos (by unfold okS; simp)]
    unfold slc
    simp
  have s0 : world_World_Side_k0 W = 1 := by
    unfold world_World_Side_k0 world_within
    rw [hi.2]; rfl
  rw [if_pos (by decide), hnow, Option.bind_some, if_pos (by decide), hmail, Option.bind_some, if_pos (by decide), Option.bind_some, grd_pos (by rw [s0]; decide), hm.s0, pool0]
  exact .pure rfl
end Go.Sl
