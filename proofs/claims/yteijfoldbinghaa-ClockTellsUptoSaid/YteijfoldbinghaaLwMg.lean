/- What both sides' events come to, merged. -/
import Derived.Test.YteijfoldbinghaaLwSrt6
set_option linter.unusedVariables false
set_option linter.unusedSimpArgs false
namespace Go.Sl
noncomputable def stp (side skew : Int) (e : api_Event) : clock_Stamp := ⟨clock_Ticks e.Time side skew, side, e⟩
theorem stamps_spec (l : List api_Event) (side skew : Int) (hl : l.length ≤ 1048576) : clock_stamps l side skew = some (l.map (stp side skew)) := by
  unfold clock_stamps
  refine bnd_conv ?_
  refine loopR_bind (fun i s => s = (l.take i).map (stp side skew)) (fun o => match o with | .dn s => s = l.map (stp side skew) | .rt r => False) (by simp) ?_ (fun s h => by rw [List.take_length] at h; exact h) ?_
  · rintro i x s hx rfl
    have hi := (List.getElem?_eq_some_iff.1 hx).1
    rw [grd_pos (by simp; omega)]
    refine ⟨_, rfl, ?_⟩
    dsimp only
    rw [List.take_add_one, hx]; simp [stp]
  · rintro (s | r) hq
    · exact ⟨_, rfl, hq⟩
    · exact hq.elim
theorem Merge_spec (s r : List api_Event) (skew : Int) (hs : s.length ≤ 1048576) (hr : r.length ≤ 1048576) : ∃ R, clock_Merge s r skew = some R ∧ SK tk (s.map (stp 0 skew) ++ r.map (stp 1 skew)) R ∧ Srt tk R := by
  unfold clock_Merge slices_Concat_i75_n2 slices_SortStableFunc_i77_m_f78
  rw [stamps_spec s 0 skew (by omega), Option.bind_some, stamps_spec r 1 skew (by omega), Option.bind_some, List.length_map, List.length_map, wrN (n := 0 + (s.length : Int)) (by omega) (by omega), if_neg (by rw [decide_eq_true_iff]; omega), wrN (by omega) (by omega), if_neg (by rw [decide_eq_true_iff]; omega)]
  have hg : slices_Grow_i128_nil (0 + (s.length : Int) + (r.length : Int)) = some [] := by
    unfold slices_Grow_i128_nil
    rw [if_neg (by rw [decide_eq_true_iff]; omega), wrN (by omega) (by omega)]
    by_cases h : 0 + (s.length : Int) + (r.length : Int) - 0 > 0
    · rw [if_pos (decide_eq_true h), grd_pos (by omega)]; rfl
    · rw [if_neg (by rw [decide_eq_true_iff]; exact h)]; rfl
  rw [hg, Option.bind_some, grd_pos (by simp; omega), grd_pos (by simp; omega), Option.bind_some, List.nil_append]
  obtain ⟨R, h1, h2, h3⟩ := stable_spec (s.map (stp 0 skew) ++ r.map (stp 1 skew)) (by simp; omega)
  rw [h1, Option.bind_some, Option.bind_some]
  exact ⟨R, rfl, h2, h3⟩
end Go.Sl
