/- The library's stable sort. -/
import Derived.Test.YteijfoldbinghaaLwSrt5
set_option linter.unusedVariables false
set_option linter.unusedSimpArgs false
namespace Go.Sl
/-- Each block of so many is sorted. -/
def Bs (s : Nat) (l : List clock_Stamp) : Prop := ∀ i : Nat, Srt tk ((l.drop (i * s)).take s)
theorem Bs.nil {s : Nat} : Bs s [] := fun i => by simp; exact List.Pairwise.nil
theorem Bs.app {s k : Nat} {D Z : List clock_Stamp} (hs : 0 < s) (hD : D.length = k * s) (h : Bs s D) (hZ : Z.length ≤ s) (hz : Srt tk Z) : Bs s (D ++ Z) := fun i => by
  rcases Nat.lt_trichotomy i k with hlt | rfl | hgt
  · have h1 : i * s + s ≤ k * s := by rw [← Nat.succ_mul]; exact Nat.mul_le_mul_right _ hlt
    rw [List.drop_append_of_le_length (by omega), List.take_append_of_le_length (by rw [List.length_drop]; omega)]
    exact h i
  · rw [← hD, List.drop_left, List.take_of_length_le hZ]; exact hz
  · have h1 : k * s + s ≤ i * s := by rw [← Nat.succ_mul]; exact Nat.mul_le_mul_right _ hgt
    rw [List.drop_of_length_le (by rw [List.length_append]; omega)]
    simp; exact List.Pairwise.nil
theorem take_drop3 (l : List clock_Stamp) (a n : Nat) : l.drop a = (l.drop a).take n ++ l.drop (a + n) := by
  rw [← List.drop_drop, List.take_append_drop]
theorem stable_spec (l : List clock_Stamp) (hlen : l.length ≤ 2200000) : ∃ r, slices_stableCmpFunc_i129_m_f78 l (l.length : Int) = some r ∧ SK tk l r ∧ Srt tk r := by
  unfold slices_stableCmpFunc_i129_m_f78
  obtain ⟨n, hn⟩ : ∃ n, l.length = n := ⟨_, rfl⟩
  rw [hn] at hlen ⊢
  -- the blocks
  refine loopW_bind (fun m s => ∃ (k : Nat) (D : List clock_Stamp), s.1 = ((20 * k + 20 : Nat) : Int) ∧ s.2.1 = ((20 * k : Nat) : Int) ∧ 20 * k ≤ n ∧ m = n - 20 * k ∧ D.length = k * 20 ∧ s.2.2 = D ++ l.drop (20 * k) ∧ Bs 20 D ∧ SK tk (l.take (20 * k)) D)
    (fun o => match o with | .dn s => ∃ (k : Nat) (D : List clock_Stamp), s.2.1 = ((20 * k : Nat) : Int) ∧ 20 * k ≤ n ∧ n < 20 * k + 20 ∧ D.length = k * 20 ∧ s.2.2 = D ++ l.drop (20 * k) ∧ Bs 20 D ∧ SK tk (l.take (20 * k)) D | .rt r => False) n ⟨0, [], rfl, rfl, by omega, by omega, by simp, by simp, Bs.nil, by simp; exact SK.refl⟩ ?_ ?_
  · rintro m ⟨b0, a0, l0⟩ ⟨k, D, rfl, rfl, hk, rfl, hD, rfl, hB, hS⟩
    dsimp only
    by_cases hle : 20 * k + 20 ≤ n
    · rw [if_pos (decide_eq_true (by omega))]
      have hsl : ((l.drop (20 * k)).take 20).length = 20 := by simp; omega
      obtain ⟨S', h1, h2, h3⟩ := isort_spec D ((l.drop (20 * k)).take 20) (l.drop (20 * k + 20)) (a := ((20 * k : Nat) : Int)) (b := ((20 * k + 20 : Nat) : Int)) (by rw [hD]; congr 1; omega) (by rw [hD, hsl]; congr 1; omega) (by rw [hD, hsl]; omega)
      have hform : D ++ l.drop (20 * k) = D ++ ((l.drop (20 * k)).take 20 ++ l.drop (20 * k + 20)) := by
        conv => lhs; rw [take_drop3 l (20 * k) 20]
      rw [hform, h1, Option.bind_some, wrN (by omega) (by omega)]
      have hS' : S'.length = 20 := by rw [← h2.len]; exact hsl
      refine ⟨_, rfl, n - 20 * (k + 1), by omega, k + 1, D ++ S', by dsimp only; omega, by dsimp only; congr 1, by omega, rfl, by rw [List.length_append, hD, hS', Nat.succ_mul], ?_, hB.app (by omega) hD (by omega) h3, ?_⟩
      · dsimp only
        rw [List.append_assoc]; congr 2
      · have e : l.take (20 * (k + 1)) = l.take (20 * k) ++ (l.drop (20 * k)).take 20 := by
          rw [Nat.mul_succ, List.take_add]
        rw [e]; exact SK.app hS h2
    · rw [if_neg (by rw [decide_eq_true_iff]; omega)]
      exact ⟨_, rfl, k, D, rfl, hk, by omega, hD, rfl, hB, hS⟩
  · rintro (s | r) hq
    · obtain ⟨b0, a0, l0⟩ := s
      obtain ⟨k, D, rfl, hk, hk2, hD, rfl, hB, hS⟩ := hq
      rw [Lo.on]
      dsimp only
      have hdl : (l.drop (20 * k)).length = n - 20 * k := by simp; omega
      obtain ⟨S', h1, h2, h3⟩ := isort_spec D (l.drop (20 * k)) [] (a := ((20 * k : Nat) : Int)) (b := (n : Int)) (by rw [hD]; congr 1; omega) (by rw [hD, hdl]; congr 1; omega) (by rw [hD, hdl]; omega)
      have hform : D ++ l.drop (20 * k) = D ++ (l.drop (20 * k) ++ []) := by simp
      rw [hform, h1, Option.bind_some, List.append_nil]
      have hS' : S'.length = n - 20 * k := by rw [← h2.len]; exact hdl
      have hB1 : Bs 20 (D ++ S') := hB.app (by omega) hD (by omega) h3
      have hS1 : SK tk l (D ++ S') := by
        have e : l = l.take (20 * k) ++ l.drop (20 * k) := (List.take_append_drop _ _).symm
        conv => lhs; rw [e]
        exact SK.app hS h2
      -- the merges
      have merge : ∀ (s : Nat) (L : List clock_Stamp), 0 < s → s < n → Bs s L → SK tk l L → True := fun _ _ _ _ _ _ => trivial
      refine loopW_bind (fun m z => ∃ (s : Nat), z.1 = (s : Int) ∧ 20 ≤ s ∧ s ≤ 2 * n + 20 ∧ m = 2 * n + 20 - s ∧ Bs s z.2 ∧ SK tk l z.2) (fun o => match o with | .dn z => ∃ s : Nat, n ≤ s ∧ Bs s z.2 ∧ SK tk l z.2 | .rt r => False) (2 * n) ⟨20, rfl, by omega, by omega, by omega, hB1, hS1⟩ ?_ ?_
      · rintro m ⟨s0, L⟩ ⟨s, rfl, hs, hs2, rfl, hBL, hSL⟩
        dsimp only at hBL hSL ⊢
        have hLn : L.length = n := by rw [← hSL.len]; exact hn
        by_cases hlt : s < n
        · rw [if_pos (decide_eq_true (by omega))]
          have w2 : IntKind.i64.wrap (2 * (s : Int)) = ((2 * s : Nat) : Int) := by rw [wrN (by omega) (by omega)]; omega
          have w3 : IntKind.i64.wrap ((s : Int) * 2) = ((2 * s : Nat) : Int) := by rw [wrN (by omega) (by omega)]; omega
          rw [w2, w3]
          refine loopW_bind (fun m z => ∃ (j : Nat) (D : List clock_Stamp), z.1 = ((j * (2 * s) + 2 * s : Nat) : Int) ∧ z.2.1 = ((j * (2 * s) : Nat) : Int) ∧ j * (2 * s) ≤ n ∧ m = n - j * (2 * s) ∧ D.length = j * (2 * s) ∧ z.2.2 = D ++ L.drop (j * (2 * s)) ∧ Bs (2 * s) D ∧ SK tk (L.take (j * (2 * s))) D)
            (fun o => match o with | .dn z => ∃ (j : Nat) (D : List clock_Stamp), z.2.1 = ((j * (2 * s) : Nat) : Int) ∧ j * (2 * s) ≤ n ∧ n < j * (2 * s) + 2 * s ∧ D.length = j * (2 * s) ∧ z.2.2 = D ++ L.drop (j * (2 * s)) ∧ Bs (2 * s) D ∧ SK tk (L.take (j * (2 * s))) D | .rt r => False) n ⟨0, [], by simp, by simp, by omega, by omega, by simp, by simp, Bs.nil, by simp; exact SK.refl⟩ ?_ ?_
          · rintro m ⟨b0, a0, l0⟩ ⟨j, D, rfl, rfl, hj, rfl, hD, rfl, hB, hS⟩
            dsimp only
            obtain ⟨a, ha⟩ : ∃ a, j * (2 * s) = a := ⟨_, rfl⟩
            have hsX := hBL (2 * j); have hsY := hBL (2 * j + 1)
            have ea : 2 * j * s = a := by rw [← ha, Nat.mul_comm 2 j, Nat.mul_assoc]
            have eb : (2 * j + 1) * s = a + s := by rw [Nat.add_mul, ea, Nat.one_mul]
            rw [ea] at hsX; rw [eb] at hsY
            rw [ha] at hj hD hS ⊢
            by_cases hle : a + 2 * s ≤ n
            · rw [if_pos (decide_eq_true (by omega))]
              have lX : ((L.drop a).take s).length = s := by simp; omega
              have lY : ((L.drop (a + s)).take s).length = s := by simp; omega
              have wm : IntKind.i64.wrap (((a : Nat) : Int) + (s : Int)) = ((a + s : Nat) : Int) := by rw [wrN (by omega) (by omega)]; omega
              obtain ⟨Z, h1, h2, h3⟩ := merge_spec 100 D ((L.drop a).take s) ((L.drop (a + s)).take s) (L.drop (a + s + s)) (a := (a : Int)) (m := ((a + s : Nat) : Int)) (b := ((a + 2 * s : Nat) : Int)) (List.length_pos_iff.1 (by omega)) (List.length_pos_iff.1 (by omega)) hsX hsY (by rw [lX, lY]; exact Nat.le_trans (by omega : s + s ≤ 2 ^ 24) (by decide)) (by rw [hD]) (by rw [hD, lX]) (by rw [hD, lX, lY]; congr 1; omega) (by rw [hD, lX, lY]; omega)
              have hform : D ++ L.drop a = D ++ ((L.drop a).take s ++ ((L.drop (a + s)).take s ++ L.drop (a + s + s))) := by
                conv => lhs; rw [take_drop3 L a s, take_drop3 L (a + s) s]
              rw [hform, wm, h1, Option.bind_some, wrN (by omega) (by omega)]
              have hZ : Z.length = 2 * s := by rw [← h2.len, List.length_append, lX, lY]; omega
              have hja : (j + 1) * (2 * s) = a + 2 * s := by rw [Nat.succ_mul, ha]
              refine ⟨_, rfl, n - (a + 2 * s), by omega, j + 1, D ++ Z, by dsimp only; rw [hja]; omega, by dsimp only; rw [hja], by rw [hja]; exact hle, by rw [hja], by rw [List.length_append, hD, hZ, hja], ?_, hB.app (by omega) (by rw [hD, ha]) (by omega) h3, ?_⟩
              · dsimp only
                rw [List.append_assoc, hja]; congr 3; omega
              · have e : L.take ((j + 1) * (2 * s)) = L.take a ++ ((L.drop a).take s ++ (L.drop (a + s)).take s) := by
                  have e2 : a + 2 * s = a + (s + s) := by omega
                  rw [hja, e2, List.take_add, List.take_add, List.drop_drop]
                rw [e]; exact SK.app hS h2
            · rw [if_neg (by rw [decide_eq_true_iff]; omega)]
              exact ⟨_, rfl, j, D, by rw [ha], by omega, by omega, by rw [ha]; exact hD, by rw [ha], hB, by rw [ha]; exact hS⟩
          · rintro (z | r) hq
            · obtain ⟨b0, a0, l0⟩ := z
              obtain ⟨j, D, rfl, hj, hj2, hD, rfl, hB, hS⟩ := hq
              rw [Lo.on]
              dsimp only
              obtain ⟨a, ha⟩ : ∃ a, j * (2 * s) = a := ⟨_, rfl⟩
              have hsX := hBL (2 * j); have hsY := hBL (2 * j + 1)
              have ea : 2 * j * s = a := by rw [← ha, Nat.mul_comm 2 j, Nat.mul_assoc]
              have eb : (2 * j + 1) * s = a + s := by rw [Nat.add_mul, ea, Nat.one_mul]
              rw [ea] at hsX; rw [eb] at hsY
              have hD0 := hD
              rw [ha] at hj hj2 hD hS ⊢
              have wm : IntKind.i64.wrap (((a : Nat) : Int) + (s : Int)) = ((a + s : Nat) : Int) := by rw [wrN (by omega) (by omega)]; omega
              rw [wm]
              have hLt : L = L.take a ++ L.drop a := (List.take_append_drop _ _).symm
              by_cases hlt2 : a + s < n
              · rw [if_pos (decide_eq_true (by omega))]
                have lX : ((L.drop a).take s).length = s := by simp; omega
                have lY : (L.drop (a + s)).length = n - (a + s) := by simp; omega
                have hsY' : Srt tk (L.drop (a + s)) := by rw [List.take_of_length_le (by omega)] at hsY; exact hsY
                obtain ⟨Z, h1, h2, h3⟩ := merge_spec 100 D ((L.drop a).take s) (L.drop (a + s)) [] (a := (a : Int)) (m := ((a + s : Nat) : Int)) (b := (n : Int)) (List.length_pos_iff.1 (by omega)) (List.length_pos_iff.1 (by omega)) hsX hsY' (by rw [lX, lY]; exact Nat.le_trans (by omega : s + (n - (a + s)) ≤ 2 ^ 24) (by decide)) (by rw [hD]) (by rw [hD, lX]) (by rw [hD, lX, lY]; congr 1; omega) (by rw [hD, lX, lY]; omega)
                have hform : D ++ L.drop a = D ++ ((L.drop a).take s ++ (L.drop (a + s) ++ [])) := by
                  conv => lhs; rw [take_drop3 L a s]
                  simp
                have hZ : Z.length = n - a := by rw [← h2.len, List.length_append, lX, lY]; omega
                rw [hform, h1, Option.bind_some, Option.bind_some, List.append_nil]
                refine ⟨_, rfl, 2 * n + 20 - 2 * s, by omega, 2 * s, rfl, by omega, by omega, rfl, hB.app (by omega) hD0 (by omega) h3, SK.trans hSL ?_⟩
                conv => lhs; rw [hLt, take_drop3 L a s]
                exact SK.app hS h2
              · rw [if_neg (by rw [decide_eq_true_iff]; omega), Option.bind_some]
                have lR : (L.drop a).length = n - a := by simp; omega
                have hsR : Srt tk (L.drop a) := by rw [List.take_of_length_le (by omega)] at hsX; exact hsX
                refine ⟨_, rfl, 2 * n + 20 - 2 * s, by omega, 2 * s, rfl, by omega, by omega, rfl, hB.app (by omega) hD0 (by omega) hsR, SK.trans hSL ?_⟩
                conv => lhs; rw [hLt]
                exact SK.app hS SK.refl
            · exact hq.elim
        · rw [if_neg (by rw [decide_eq_true_iff]; omega)]
          exact ⟨_, rfl, s, by omega, hBL, hSL⟩
      · rintro (z | r) hq
        · obtain ⟨s0, L⟩ := z
          obtain ⟨s, hs, hBL, hSL⟩ := hq
          have hLn : L.length = n := by rw [← hSL.len]; exact hn
          have h0 := hBL 0
          rw [Nat.zero_mul, List.drop_zero, List.take_of_length_le (by dsimp only; omega)] at h0
          exact ⟨_, rfl, hSL, h0⟩
        · exact hq.elim
    · exact hq.elim
end Go.Sl
