/- The library's insertion sort. -/
import Derived.Test.YteijfoldbinghaaLwSrt2
set_option linter.unusedVariables false
set_option linter.unusedSimpArgs false
namespace Go.Sl
theorem nil_snoc {α : Type} (l : List α) : l = [] ∨ ∃ t u, l = t ++ [u] := by
  rcases List.eq_nil_or_concat l with h | ⟨t, u, h⟩
  · exact .inl h
  · exact .inr ⟨t, u, by simpa using h⟩
abbrev tk (x : clock_Stamp) : Int := x.Tick
theorem cmp_lt (x y : clock_Stamp) : (clock_Merge_1 x y < 0) ↔ tk x < tk y := by
  unfold clock_Merge_1 cmp_Compare_i79 cmp_isNaN_i130
  have h1 : decide (x.Tick ≠ x.Tick) = false := by simp
  have h2 : decide (y.Tick ≠ y.Tick) = false := by simp
  rw [h1, h2]
  simp only [Bool.false_eq_true, if_false]
  by_cases h : x.Tick < y.Tick
  · rw [if_pos (decide_eq_true h)]; simp [tk, h]
  · rw [if_neg (by simpa using h)]
    by_cases h' : x.Tick > y.Tick
    · rw [if_pos (decide_eq_true h')]; simp [tk]; omega
    · rw [if_neg (by simpa using h')]; simp [tk]; omega
theorem cmp_d (x y : clock_Stamp) : decide (clock_Merge_1 x y < 0) = decide (tk x < tk y) := by
  rw [Bool.eq_iff_iff, decide_eq_true_iff, decide_eq_true_iff, cmp_lt]
theorem srt_ins {T1 T2 : List clock_Stamp} {x : clock_Stamp} (h : Srt tk (T1 ++ T2)) (h2 : ∀ u ∈ T2, tk x < tk u) (h1 : T1 = [] ∨ ∃ T u, T1 = T ++ [u] ∧ tk u ≤ tk x) : Srt tk (T1 ++ x :: T2) := by
  refine Srt.app h.left (List.pairwise_cons.2 ⟨fun u hu => Int.le_of_lt (h2 u hu), h.right⟩) fun u hu v hv => ?_
  rcases List.mem_cons.1 hv with rfl | hv
  · rcases h1 with rfl | ⟨T, w, rfl, hw⟩
    · simp at hu
    · rcases List.mem_append.1 hu with hu | hu
      · have := (h.left).cross u hu w (by simp)
        omega
      · rw [List.mem_singleton.1 hu]; exact hw
  · exact h.cross u hu v hv
theorem sk_ins {T1 T2 : List clock_Stamp} {x : clock_Stamp} (h2 : ∀ u ∈ T2, tk x < tk u) : SK tk ((T1 ++ T2) ++ [x]) (T1 ++ x :: T2) := by
  have h := SK.app (SK.refl (key := tk) (a := T1)) (SK.swap (key := tk) (x := T2) (y := [x]) fun u hu v hv => by rw [List.mem_singleton.1 hv]; exact h2 u hu)
  simpa using h
theorem isort_spec (P S Q : List clock_Stamp) {a b : Int} (ha : a = P.length) (hb : b = ((P.length + S.length : Nat) : Int)) (hlen : P.length + S.length ≤ 4194304) :
    ∃ S', slices_insertionSortCmpFunc_i167_m_f78 (P ++ (S ++ Q)) a b = some (P ++ (S' ++ Q)) ∧ SK tk S S' ∧ Srt tk S' := by
  subst ha hb
  have key : ∃ r, slices_insertionSortCmpFunc_i167_m_f78 (P ++ (S ++ Q)) (P.length : Int) ((P.length + S.length : Nat) : Int) = some r ∧ ∃ S', r = P ++ (S' ++ Q) ∧ SK tk S S' ∧ Srt tk S' := by
    unfold slices_insertionSortCmpFunc_i167_m_f78
    have w0 : IntKind.i64.wrap ((P.length : Int) + 1) = ((P.length + 1 : Nat) : Int) := by rw [wrN (by omega) (by omega)]; omega
    rw [w0]
    by_cases hS : S = []
    · subst hS
      rw [loopW_step]
      dsimp only
      rw [if_neg (by rw [decide_eq_true_iff]; simp; omega)]
      exact ⟨_, rfl, [], by simp, SK.refl, List.Pairwise.nil⟩
    have hpos := List.length_pos_iff.2 hS
    refine loopW_bind (fun m s => ∃ (k : Nat) (T : List clock_Stamp), s.1 = ((P.length + k : Nat) : Int) ∧ 1 ≤ k ∧ k ≤ S.length ∧ m = S.length - k ∧ T.length = k ∧ s.2 = P ++ (T ++ (S.drop k ++ Q)) ∧ SK tk (S.take k) T ∧ Srt tk T)
      (fun o => match o with | .dn s => ∃ S', s.2 = P ++ (S' ++ Q) ∧ SK tk S S' ∧ Srt tk S' | .rt r => False) (S.length - 1) ⟨1, S.take 1, rfl, Nat.le_refl _, hpos, rfl, by simp; omega, by
        rw [← List.append_assoc (S.take 1), List.take_append_drop], SK.refl, ?_⟩ ?_ ?_
    · obtain ⟨x, S1, rfl⟩ := List.exists_cons_of_ne_nil hS
      exact List.pairwise_singleton _ _
    · rintro m ⟨i0, l⟩ ⟨k, T, rfl, hk1, hk, rfl, hTl, rfl, hsk, hst⟩
      dsimp only
      by_cases hlt : k < S.length
      · rw [if_pos (decide_eq_true (by omega))]
        have hx := List.getElem?_eq_getElem hlt
        generalize S[k] = x at hx
        have hd := drop_c hx
        have ht : S.take (k + 1) = S.take k ++ [x] := by rw [List.take_add_one, hx]; rfl
        refine loopW_bind (fun m s => ∃ T1 T2 : List clock_Stamp, s.1 = ((P.length + T1.length : Nat) : Int) ∧ m = T1.length ∧ s.2 = P ++ (T1 ++ x :: (T2 ++ (S.drop (k + 1) ++ Q))) ∧ T1 ++ T2 = T ∧ ∀ u ∈ T2, tk x < tk u)
          (fun o => match o with | .dn s => ∃ T1 T2 : List clock_Stamp, s.2 = P ++ (T1 ++ x :: (T2 ++ (S.drop (k + 1) ++ Q))) ∧ T1 ++ T2 = T ∧ (∀ u ∈ T2, tk x < tk u) ∧ (T1 = [] ∨ ∃ T' u, T1 = T' ++ [u] ∧ tk u ≤ tk x) | .rt r => False) T.length ⟨T, [], by rw [hTl], rfl, by rw [hd]; simp, by simp, by simp⟩ ?_ ?_
        · rintro m ⟨j0, l⟩ ⟨T1, T2, rfl, rfl, rfl, hTT, hgt⟩
          dsimp only
          have hTl2 : T1.length + T2.length = k := by rw [← hTl, ← hTT]; simp
          rcases nil_snoc T1 with rfl | ⟨T', u, rfl⟩
          · rw [if_neg (by rw [decide_eq_true_iff]; simp), Option.bind_some, if_neg (by decide)]
            exact ⟨_, rfl, [], T2, rfl, hTT, hgt, .inl rfl⟩
          · have hl : (T' ++ [u]).length = T'.length + 1 := by simp
            have hTl3 : T'.length + 1 + T2.length = k := by rw [hl] at hTl2; exact hTl2
            rw [hl]
            have form' : P ++ (T' ++ [u] ++ x :: (T2 ++ (S.drop (k + 1) ++ Q))) = (P ++ T') ++ u :: ([] ++ x :: (T2 ++ (S.drop (k + 1) ++ Q))) := by simp
            have hp : (P ++ T').length = P.length + T'.length := by simp
            have hm : (P ++ T').length + 1 + ([] : List clock_Stamp).length = P.length + (T'.length + 1) := by simp; omega
            have g1 := get_mid (P ++ T') ([] ++ x :: (T2 ++ (S.drop (k + 1) ++ Q))) u hp
            have g2 := get_mid2 (P ++ T') [] (T2 ++ (S.drop (k + 1) ++ Q)) u x hm
            have sw := set_swap (P ++ T') [] (T2 ++ (S.drop (k + 1) ++ Q)) u x hp hm
            have w1 : IntKind.i64.wrap (((P.length + (T'.length + 1) : Nat) : Int) - 1) = ((P.length + T'.length : Nat) : Int) := by rw [wrN (by omega) (by omega)]; omega
            rw [form', w1, at_nat, g2, Option.bind_some, at_nat, g1, Option.bind_some, cmp_d, if_pos (decide_eq_true (by omega)), Option.bind_some]
            by_cases hlt2 : tk x < tk u
            · rw [if_pos (decide_eq_true hlt2), Option.bind_some, Option.bind_some, Option.bind_some, Int.toNat_natCast, Int.toNat_natCast]
              have g3 : ∃ z, at_ (((P ++ T') ++ u :: ([] ++ x :: (T2 ++ (S.drop (k + 1) ++ Q)))).set (P.length + (T'.length + 1)) u) ((P.length + T'.length : Nat) : Int) = some z := by
                rw [at_nat]
                have h := (List.getElem?_eq_some_iff.1 g1).1
                exact ⟨_, List.getElem?_eq_getElem (by rw [List.length_set]; exact h)⟩
              obtain ⟨z, hz⟩ := g3
              rw [hz, Option.bind_some]
              refine ⟨_, rfl, T'.length, by omega, T', u :: T2, rfl, rfl, ?_, ?_, ?_⟩
              · dsimp only
                rw [List.set_comm _ _ (by omega), sw]; simp
              · rw [← hTT]; simp
              · intro v hv
                rcases List.mem_cons.1 hv with rfl | hv
                · exact hlt2
                · exact hgt v hv
            · rw [if_neg (by simpa using hlt2)]
              exact ⟨_, rfl, T' ++ [u], T2, by dsimp only; rw [form'], by simpa using hTT, hgt, .inr ⟨T', u, rfl, by omega⟩⟩
        · rintro (s | r) hq
          · obtain ⟨j, l⟩ := s
            obtain ⟨T1, T2, rfl, hTT, hgt, hend⟩ := hq
            rw [Lo.on]
            dsimp only
            have w1 : IntKind.i64.wrap (((P.length + k : Nat) : Int) + 1) = ((P.length + (k + 1) : Nat) : Int) := by rw [wrN (by omega) (by omega)]; omega
            rw [w1]
            have hTl2 : T1.length + T2.length = k := by rw [← hTl, ← hTT]; simp
            refine ⟨_, rfl, S.length - (k + 1), by omega, k + 1, T1 ++ x :: T2, rfl, by omega, by omega, rfl, by simp; omega, by simp, ?_, ?_⟩
            · rw [ht]
              refine SK.trans (SK.app hsk SK.refl) ?_
              rw [← hTT]; exact sk_ins hgt
            · exact srt_ins (by rw [hTT]; exact hst) hgt hend
          · exact hq.elim
      · rw [if_neg (by rw [decide_eq_true_iff]; omega)]
        obtain rfl : k = S.length := by omega
        refine ⟨_, rfl, T, by simp, ?_, hst⟩
        rw [List.take_length] at hsk; exact hsk
    · rintro (s | r) hq
      · exact ⟨_, rfl, hq⟩
      · exact hq.elim
  obtain ⟨r, hr, S', rfl, h⟩ := key
  exact ⟨S', hr, h⟩
end Go.Sl
