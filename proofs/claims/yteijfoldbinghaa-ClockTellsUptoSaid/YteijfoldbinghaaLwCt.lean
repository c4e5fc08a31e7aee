/- The plain law of narrowslaw36: ticks, the order of both sides' events, those of some ticks, gaps. -/
import Derived.Test.YteijfoldbinghaaSlCt
import Derived.Test.YteijfoldbinghaaLwMg
set_option linter.unusedVariables false
set_option linter.unusedSimpArgs false
namespace Go.Sl
theorem wr1n {i : Nat} (h : i < 1099511627776) : IntKind.i64.wrap ((i : Int) + 1) = ((i + 1 : Nat) : Int) := by
  rw [wrap64 (by omega) (by omega)]; rfl
theorem alive36 : narrowslaw36_alive = true := by
  unfold narrowslaw36_alive clock_Ticks thn
  decide
theorem ticks_eq (t sd k : Int) : narrowslaw36_ticks t sd k = clock_Ticks t sd k := by
  unfold narrowslaw36_ticks clock_Ticks; rfl
theorem back_loop {β : Type} (all : List clock_Stamp) (t : Int) (hl : all.length ≤ 4194304) : ∃ k : Nat, loopW (β := β) (fun (s45 : Int) => Option.bind (if (decide (s45 > 0)) = true then (Option.bind (at_ all (IntKind.i64.wrap (s45 - 1))) fun (x61 : clock_Stamp) => some (decide (x61.Tick > t))) else (some false)) fun (y54 : Bool) => if y54 = true then (some (.nx (IntKind.i64.wrap (s45 - 1)))) else (some (.br s45))) (all.length : Int) = some (.dn (k : Int)) ∧ k ≤ all.length ∧ (∀ u ∈ all.drop k, t < tk u) ∧ (all.take k = [] ∨ ∃ T u, all.take k = T ++ [u] ∧ tk u ≤ t) := by
  have key : ∃ o, loopW (β := β) (fun (s45 : Int) => Option.bind (if (decide (s45 > 0)) = true then (Option.bind (at_ all (IntKind.i64.wrap (s45 - 1))) fun (x61 : clock_Stamp) => some (decide (x61.Tick > t))) else (some false)) fun (y54 : Bool) => if y54 = true then (some (.nx (IntKind.i64.wrap (s45 - 1)))) else (some (.br s45))) (all.length : Int) = some o ∧ ∃ k : Nat, o = .dn (k : Int) ∧ k ≤ all.length ∧ (∀ u ∈ all.drop k, t < tk u) ∧ (all.take k = [] ∨ ∃ T u, all.take k = T ++ [u] ∧ tk u ≤ t) := by
    refine loopW_by (fun (m : Nat) (s : Int) => ∃ k : Nat, s = k ∧ m = k ∧ k ≤ all.length ∧ ∀ u ∈ all.drop k, t < tk u) (fun o => ∃ k : Nat, o = .dn (k : Int) ∧ k ≤ all.length ∧ (∀ u ∈ all.drop k, t < tk u) ∧ (all.take k = [] ∨ ∃ T u, all.take k = T ++ [u] ∧ tk u ≤ t)) ?_ all.length _ ⟨all.length, rfl, rfl, Nat.le_refl _, by simp⟩
    rintro m s ⟨k, rfl, hm, hk, hd⟩
    by_cases h0 : k = 0
    · subst h0
      rw [if_neg (by simp), Option.bind_some, if_neg (by decide)]
      exact ⟨_, rfl, 0, rfl, by omega, hd, .inl rfl⟩
    · obtain ⟨j, rfl⟩ : ∃ j, k = j + 1 := ⟨k - 1, by omega⟩
      have hx := List.getElem?_eq_getElem (l := all) (i := j) (by omega)
      generalize all[j] = x at hx
      have w1 : IntKind.i64.wrap (((j + 1 : Nat) : Int) - 1) = (j : Int) := by rw [wrN (by omega) (by omega)]; omega
      have ht : all.take (j + 1) = all.take j ++ [x] := by rw [List.take_add_one, hx]; rfl
      rw [if_pos (decide_eq_true (by omega)), w1, at_nat, hx, Option.bind_some, Option.bind_some]
      by_cases hgt : x.Tick > t
      · rw [if_pos (decide_eq_true hgt)]
        refine ⟨_, rfl, j, by omega, j, rfl, rfl, by omega, fun u hu => ?_⟩
        rw [drop_c hx] at hu
        rcases List.mem_cons.1 hu with rfl | hu
        · exact hgt
        · exact hd u hu
      · rw [if_neg (by simpa using hgt)]
        exact ⟨_, rfl, j + 1, rfl, hk, hd, .inr ⟨_, x, ht, by show x.Tick ≤ t; omega⟩⟩
  obtain ⟨o, ho, k, rfl, h⟩ := key
  exact ⟨k, ho, h⟩
/-- Is a tick one of those? -/
def inR (a b : Int) (x : clock_Stamp) : Bool := decide (x.Tick ≥ a) && decide (x.Tick < b)
def gapN (R : List clock_Stamp) : Nat → Int
  | 0 => 0
  | 1 => 0
  | i + 2 => match R[i + 1]?, R[i]? with
    | some x, some y => if IntKind.i64.wrap (x.Tick - y.Tick) > gapN R (i + 1) then IntKind.i64.wrap (x.Tick - y.Tick) else gapN R (i + 1)
    | _, _ => gapN R (i + 1)
theorem Gaps_spec (R : List clock_Stamp) (hl : R.length ≤ 4194304) : clock_Gaps R = some (gapN R R.length) := by
  unfold clock_Gaps
  refine bnd_conv ?_
  refine loopW_bind (fun k s => ∃ i : Nat, s.1 = ((i + 1 : Nat) : Int) ∧ (i + 1 ≤ R.length ∨ R.length = 0 ∧ i = 0) ∧ k = R.length - (i + 1) ∧ s.2 = gapN R (i + 1)) (fun o => match o with | .dn s => s.2 = gapN R R.length | .rt r => False) (R.length - 1) ⟨0, rfl, by omega, rfl, rfl⟩ ?_ ?_
  · rintro k ⟨i0, g⟩ ⟨i, rfl, hi, rfl, rfl⟩
    dsimp only
    by_cases hlt : i + 1 < R.length
    · rw [if_pos (decide_eq_true (by omega)), wr1n (by omega)]
      have hx := List.getElem?_eq_getElem hlt
      have hy := List.getElem?_eq_getElem (l := R) (i := i) (by omega)
      generalize R[i + 1] = x at hx
      generalize R[i] = y at hy
      have w1 : IntKind.i64.wrap (((i + 1 : Nat) : Int) - 1) = (i : Int) := by rw [wrN (by omega) (by omega)]; omega
      rw [w1, at_nat, hx, Option.bind_some, at_nat, hy, Option.bind_some]
      refine ⟨_, rfl, R.length - (i + 1 + 1), by omega, i + 1, rfl, by omega, rfl, ?_⟩
      dsimp only
      rw [gapN, hx, hy]
    · rw [if_neg (by rw [decide_eq_true_iff]; omega)]
      refine ⟨_, rfl, ?_⟩
      dsimp only
      rcases hi with h | ⟨h, rfl⟩
      · have : i + 1 = R.length := by omega
        rw [this]
      · rw [h]; rfl
  · rintro (s | r) hq
    · exact ⟨_, rfl, hq⟩
    · exact hq.elim
theorem btw1 (a b : Int) (x : clock_Stamp) : clock_Between_1_c x a b = !(inR a b x) := by
  unfold clock_Between_1_c thn inR
  by_cases h1 : x.Tick < a
  · have h2 : ¬ (x.Tick ≥ a) := by omega
    rw [if_pos (decide_eq_true h1), decide_eq_false h2]; rfl
  · have h2 : x.Tick ≥ a := by omega
    rw [if_neg (by simpa using h1), decide_eq_true h2, Bool.true_and]
    by_cases h3 : x.Tick < b
    · have h4 : ¬ (x.Tick ≥ b) := by omega
      rw [decide_eq_true h3, decide_eq_false h4]; rfl
    · have h4 : x.Tick ≥ b := by omega
      rw [decide_eq_false h3, decide_eq_true h4]; rfl
theorem Ix82 (l : List clock_Stamp) (a b : Int) : (slices_IndexFunc_i131_f82 l a b = some (-1) ∧ ∀ x ∈ l, inR a b x = true) ∨ ∃ (i : Nat) (x : clock_Stamp), slices_IndexFunc_i131_f82 l a b = some (i : Int) ∧ l[i]? = some x ∧ inR a b x = false ∧ ∀ k y, k < i → l[k]? = some y → inR a b y = true := by
  have hp := btw1 a b
  have key : ∃ r, slices_IndexFunc_i131_f82 l a b = some r ∧ ((r = -1 ∧ ∀ x ∈ l, inR a b x = true) ∨ ∃ (i : Nat) (x : clock_Stamp), r = (i : Int) ∧ l[i]? = some x ∧ inR a b x = false ∧ ∀ k y, k < i → l[k]? = some y → inR a b y = true) := by
    unfold slices_IndexFunc_i131_f82
    refine loopR_bind (fun i s => ∀ k y, k < i → l[k]? = some y → inR a b y = true) (fun o => match o with | .dn _ => ∀ x ∈ l, inR a b x = true | .rt r => ∃ (i : Nat) (x : clock_Stamp), r = (i : Int) ∧ l[i]? = some x ∧ inR a b x = false ∧ ∀ k y, k < i → l[k]? = some y → inR a b y = true) (fun k y h => by omega) ?_ ?_ ?_
    · intro i x s hx hs
      rw [hp]
      cases h : inR a b x with
      | false => exact ⟨_, rfl, i, x, rfl, hx, h, hs⟩
      | true =>
        refine ⟨_, rfl, fun k y hk hy => ?_⟩
        by_cases hki : k = i
        · subst hki; rw [hx] at hy; cases hy; exact h
        · exact hs k y (by omega) hy
    · intro s h x hx
      obtain ⟨k, hk⟩ := List.mem_iff_getElem?.1 hx
      exact h k x (List.getElem?_eq_some_iff.1 hk).1 hk
    · rintro (s | r) hq
      · exact ⟨_, rfl, .inl ⟨rfl, hq⟩⟩
      · exact ⟨_, rfl, .inr hq⟩
  obtain ⟨r, hr, h⟩ := key
  rcases h with ⟨rfl, h⟩ | ⟨i, x, rfl, h⟩
  · exact .inl ⟨hr, h⟩
  · exact .inr ⟨i, x, hr, h⟩
theorem flt_step {l : List clock_Stamp} {f : clock_Stamp → Bool} {j : Nat} {x : clock_Stamp} (h : l[j]? = some x) : (l.take (j + 1)).filter f = (l.take j).filter f ++ (if f x = true then [x] else []) := by
  rw [List.take_add_one, h, List.filter_append]
  congr 1
  cases hk : f x <;> simp [hk]
theorem Between_spec (l : List clock_Stamp) (a b : Int) (hl : l.length ≤ 4194304) : clock_Between l a b = some (l.filter (inR a b)) := by
  have hp := btw1 a b
  have hdel : slices_DeleteFunc_i80_o_f82 l a b = some (l.filter (inR a b)) := by
    unfold slices_DeleteFunc_i80_o_f82
    rcases Ix82 l a b with ⟨h, hall⟩ | ⟨i, x, h, hx, hkx, hbefore⟩
    · rw [h, Option.bind_some, if_pos (by decide), List.filter_eq_self.2 hall]
    · rw [h, Option.bind_some, if_neg (by rw [decide_eq_true_iff]; omega), wr1n (by have := (List.getElem?_eq_some_iff.1 hx).1; omega)]
      have hin := (List.getElem?_eq_some_iff.1 hx).1
      refine bnd_conv ?_
      refine loopW_bind (fun k s => ∃ j m : Nat, s.1 = j ∧ s.2.1 = m ∧ m < j ∧ j ≤ l.length ∧ k = l.length - j ∧ s.2.2.length = l.length ∧ s.2.2.take m = (l.take j).filter (inR a b) ∧ s.2.2.drop j = l.drop j)
        (fun o => match o with | .dn s => ∃ m : Nat, s.2.1 = m ∧ m ≤ l.length ∧ s.2.2.length = l.length ∧ s.2.2.take m = l.filter (inR a b) | .rt r => False) (l.length - (i + 1)) ⟨i + 1, i, rfl, rfl, by omega, by omega, rfl, rfl, ?_, rfl⟩ ?_ ?_
      · dsimp only
        rw [flt_step hx, hkx]
        have : (l.take i).filter (inR a b) = l.take i := List.filter_eq_self.2 fun y hy => by
          obtain ⟨k, hk⟩ := List.mem_iff_getElem?.1 hy
          have hki := (List.getElem?_eq_some_iff.1 hk).1
          rw [List.length_take] at hki
          rw [List.getElem?_take_of_lt (by omega)] at hk
          exact hbefore k y (by omega) hk
        rw [this]; simp
      · rintro k ⟨j0, m0, s⟩ ⟨j, m, rfl, rfl, hmj, hj, rfl, hsl, ht, hd⟩
        dsimp only at hsl ht hd ⊢
        rw [hsl]
        by_cases hlt : j < l.length
        · rw [if_pos (decide_eq_true (by omega))]
          have hy := List.getElem?_eq_getElem hlt
          generalize l[j] = y at hy
          have hsy : s[j]? = some y := by
            have h1 : (s.drop j)[0]? = (l.drop j)[0]? := by rw [hd]
            simpa [hy] using h1
          have hdd : s.drop (j + 1) = l.drop (j + 1) := by
            have : (s.drop j).drop 1 = (l.drop j).drop 1 := by rw [hd]
            simpa [List.drop_drop] using this
          rw [at_nat, hsy, Option.bind_some, hp, Bool.not_not, wr1n (i := j) (by omega)]
          cases hk : inR a b y with
          | true =>
            obtain ⟨z, hz⟩ : ∃ z, s[m]? = some z := ⟨_, List.getElem?_eq_getElem (by omega)⟩
            rw [if_pos rfl, at_nat, hz, Option.bind_some, Option.bind_some, wr1n (i := m) (by omega), Int.toNat_natCast]
            refine ⟨_, rfl, l.length - (j + 1), by omega, j + 1, m + 1, rfl, rfl, by omega, by omega, rfl, by simpa using hsl, ?_, ?_⟩
            · dsimp only
              rw [flt_step hy, hk, if_pos rfl, ← ht, List.take_add_one]
              have h1 : (s.set m y)[m]? = some y := by rw [List.getElem?_set_self (by omega)]
              rw [h1, List.take_set_of_le (Nat.le_refl _)]; rfl
            · dsimp only
              rw [List.drop_set_of_lt (by omega)]; exact hdd
          | false =>
            rw [if_neg (by decide), Option.bind_some]
            refine ⟨_, rfl, l.length - (j + 1), by omega, j + 1, m, rfl, rfl, by omega, by omega, rfl, hsl, ?_, hdd⟩
            dsimp only
            rw [flt_step hy, hk, ht]; simp
        · rw [if_neg (by rw [decide_eq_true_iff]; omega)]
          obtain rfl : j = l.length := by omega
          rw [List.take_length] at ht
          exact ⟨_, rfl, m, rfl, by omega, hsl, ht⟩
      · rintro (s | r) hq
        · obtain ⟨m, h1, h2, h3, h4⟩ := hq
          obtain ⟨a', b', c⟩ := s
          dsimp only at h1 h3 h4
          subst h1
          rw [Lo.on]
          dsimp only
          rw [grd_pos (by omega), grd_pos (by simp; omega)]
          refine ⟨_, rfl, ?_⟩
          rw [Int.toNat_natCast, List.take_append_of_le_length (by simp; omega), List.take_take, Nat.min_self, h4]
        · exact hq.elim
  unfold clock_Between slices_Clone_i81
  rw [grd_pos (by simp; omega), Option.bind_some, List.nil_append, hdel]; rfl
set_option maxHeartbeats 2000000 in
theorem ClockTells_true (s r : List api_Event) (skew fr to : Int) (hs : s.length ≤ 1048576) (hr : r.length ≤ 1048576) : ∃ b, narrowslaw36_ClockTells s r skew fr to = some b ∧ b = true := by
  unfold narrowslaw36_ClockTells
  rw [alive36, if_neg (by decide)]
  obtain ⟨R, hR, hSK, hSrt⟩ := Merge_spec s r skew hs hr
  obtain ⟨L, hL⟩ : ∃ L, L = s.map (stp 0 skew) ++ r.map (stp 1 skew) := ⟨_, rfl⟩
  rw [← hL] at hSK
  have hLl : L.length = s.length + r.length := by rw [hL]; simp
  have hRl : R.length = s.length + r.length := by rw [← hSK.len, hLl]
  have hst : ∀ x ∈ R, clock_Ticks x.Event.Time x.Side skew = x.Tick := fun x hx => by
    have := (hSK.mem).2 hx
    rw [hL] at this
    rcases List.mem_append.1 this with h | h
    · obtain ⟨y, _, rfl⟩ := List.mem_map.1 h; rfl
    · obtain ⟨y, _, rfl⟩ := List.mem_map.1 h; rfl
  rw [wrN (n := (s.length : Int) + (r.length : Int)) (by omega) (by omega)]
  refine loopW_bind (fun k z => ∃ i : Nat, z.1 = i ∧ i ≤ L.length ∧ k = L.length - i ∧ SK tk (L.take i) z.2 ∧ Srt tk z.2) (fun o => match o with | .dn z => z.2 = R | .rt _ => False) L.length ⟨0, rfl, by omega, by omega, by simp; exact SK.refl, List.Pairwise.nil⟩ ?_ ?_
  · rintro k ⟨i0, all⟩ ⟨i, rfl, hi, rfl, hsk, hso⟩
    dsimp only at hsk hso ⊢
    have hal : all.length = i := by rw [← hsk.len]; simp; omega
    by_cases hlt : i < L.length
    · rw [if_pos (decide_eq_true (by omega))]
      have hz := List.getElem?_eq_getElem hlt
      generalize L[i] = z at hz
      have hy : (if (decide ((i : Int) < ((s.length : Int)))) = true then (Option.bind (at_ s (i : Int)) fun (x20 : api_Event) => Option.bind (at_ s (i : Int)) fun (x27 : api_Event) => some (((narrowslaw36_ticks x20.Time 0 skew), (0 : Int), x27))) else (Option.bind (at_ r (IntKind.i64.wrap ((i : Int) - ((s.length : Int))))) fun (x34 : api_Event) => Option.bind (at_ r (IntKind.i64.wrap ((i : Int) - ((s.length : Int))))) fun (x41 : api_Event) => some (((narrowslaw36_ticks x34.Time 1 skew), (1 : Int), x41)))) = some (z.Tick, z.Side, z.Event) := by
        by_cases h1 : i < s.length
        · have hx := List.getElem?_eq_getElem h1
          have hzz : L[i]? = some (stp 0 skew s[i]) := by
            rw [hL, List.getElem?_append_left (by simpa using h1), List.getElem?_map, hx]; rfl
          rw [hz] at hzz; cases hzz
          rw [if_pos (decide_eq_true (by omega)), at_nat, hx, Option.bind_some, Option.bind_some, ticks_eq]; rfl
        · have h2 : i - s.length < r.length := by omega
          have hx := List.getElem?_eq_getElem h2
          have hzz : L[i]? = some (stp 1 skew r[i - s.length]) := by
            rw [hL, List.getElem?_append_right (by simp; omega), List.length_map, List.getElem?_map, hx]; rfl
          rw [hz] at hzz; cases hzz
          have w1 : IntKind.i64.wrap ((i : Int) - (s.length : Int)) = ((i - s.length : Nat) : Int) := by rw [wrN (by omega) (by omega)]; omega
          rw [if_neg (by rw [decide_eq_true_iff]; omega), w1, at_nat, hx, Option.bind_some, Option.bind_some, ticks_eq]; rfl
      rw [hy, Option.bind_some]
      dsimp only
      obtain ⟨k, hk, hkl, hd, ht⟩ := back_loop (β := Ct (Int × List clock_Stamp) Bool) all z.Tick (by omega)
      have ok1 : okS all.length none (some (k : Int)) none := by unfold okS; simp; omega
      have ok2 : okS all.length (some (k : Int)) none none := by unfold okS; simp; omega
      have e1 : slc all 0 (k : Int).toNat = all.take k := by simp [slc]
      have e2 : slc all (k : Int).toNat all.length = all.drop k := by simp [slc]
      have ez : (⟨z.Tick, z.Side, z.Event⟩ : clock_Stamp) = z := rfl
      rw [hk, Option.bind_some, Lo.on, grd_pos ok1, grd_pos ok2, e1, e2, ez, grd_pos (by simp; omega), grd_pos (by simp; omega), grd_pos (by simp; omega), wr1n (i := i) (by omega)]
      refine ⟨_, rfl, L.length - (i + 1), by omega, i + 1, rfl, by omega, rfl, ?_, ?_⟩
      · have e : L.take (i + 1) = L.take i ++ [z] := by rw [List.take_add_one, hz]; rfl
        rw [e]
        refine SK.trans (SK.app hsk SK.refl) ?_
        have h5 := sk_ins (T1 := all.take k) (T2 := all.drop k) (x := z) hd
        rw [List.take_append_drop] at h5
        simpa using h5
      · have h6 := srt_ins (T1 := all.take k) (T2 := all.drop k) (x := z) (by rw [List.take_append_drop]; exact hso) hd ht
        simpa using h6
    · rw [if_neg (by rw [decide_eq_true_iff]; omega)]
      obtain rfl : i = L.length := by omega
      rw [List.take_length] at hsk
      exact ⟨_, rfl, (Srt.uniq hSrt hso (SK.trans hSK.symm hsk)).symm⟩
  · rintro (z | q) hq
    · obtain ⟨i0, all⟩ := z
      have hq' : all = R := hq
      subst hq'
      rw [Lo.on, hR, Option.bind_some]
      dsimp only
      rw [if_neg (by simp)]
      refine loopW_bind (fun k z => ∃ i : Nat, z.1 = i ∧ i ≤ all.length ∧ k = all.length - i ∧ z.2.1 = gapN all i ∧ z.2.2 = (((all.take i).filter (inR fr to)).length : Int)) (fun o => match o with | .dn z => z.2.1 = gapN all all.length ∧ z.2.2 = ((all.filter (inR fr to)).length : Int) | .rt _ => False) all.length ⟨0, rfl, by omega, by omega, rfl, by simp⟩ ?_ ?_
      · rintro k ⟨i0, g, n⟩ ⟨i, rfl, hi, rfl, rfl, rfl⟩
        dsimp only
        by_cases hlt : i < all.length
        · rw [if_pos (decide_eq_true (by omega)), wr1n (i := i) (by omega)]
          have hx := List.getElem?_eq_getElem hlt
          generalize all[i] = x at hx
          have hxt := hst x (List.mem_of_getElem? hx)
          have hfl := List.length_filter_le (inR fr to) (all.take i)
          rw [List.length_take] at hfl
          simp only [at_nat, hx, Option.bind_some]
          rw [if_neg (by simp), Option.bind_some, if_neg (by rw [decide_eq_true_iff, hxt]; simp)]
          have hn : (Option.bind (if (decide (x.Tick ≥ fr)) = true then (some (decide (x.Tick < to))) else (some false)) fun (y152 : Bool) => if y152 = true then (some (IntKind.i64.wrap ((((all.take i).filter (inR fr to)).length : Int) + 1))) else (some (((all.take i).filter (inR fr to)).length : Int))) = some (((all.take (i + 1)).filter (inR fr to)).length : Int) := by
            rw [flt_step hx]
            unfold inR at *
            by_cases h1 : x.Tick ≥ fr
            · rw [if_pos (decide_eq_true h1), Option.bind_some]
              by_cases h2 : x.Tick < to
              · rw [if_pos (decide_eq_true h2), wr1n (by omega)]; simp [h1, h2]
              · rw [if_neg (by simpa using h2)]; simp [h2]
            · rw [if_neg (by simpa using h1), Option.bind_some, if_neg (by decide)]; simp [h1]
          rw [hn, Option.bind_some]
          by_cases h0 : i = 0
          · subst h0
            rw [if_neg (by simp), Option.bind_some, Lo.on]
            exact ⟨_, rfl, all.length - 1, by omega, 1, rfl, by omega, rfl, rfl, rfl⟩
          · obtain ⟨j, rfl⟩ : ∃ j, i = j + 1 := ⟨i - 1, by omega⟩
            have hy := List.getElem?_eq_getElem (l := all) (i := j) (by omega)
            generalize all[j] = y at hy
            have w1 : IntKind.i64.wrap (((j + 1 : Nat) : Int) - 1) = (j : Int) := by rw [wrN (by omega) (by omega)]; omega
            rw [if_pos (decide_eq_true (by omega)), w1, at_nat, hy, Option.bind_some, Option.bind_some, Lo.on]
            refine ⟨_, rfl, all.length - (j + 1 + 1), by omega, j + 1 + 1, rfl, by omega, rfl, ?_, rfl⟩
            dsimp only
            rw [gapN, hx, hy]
        · rw [if_neg (by rw [decide_eq_true_iff]; omega)]
          obtain rfl : i = all.length := by omega
          exact ⟨_, rfl, rfl, by rw [List.take_length]⟩
      · rintro (z | q) hq
        · obtain ⟨i0, g, n⟩ := z
          obtain ⟨rfl, rfl⟩ := hq
          rw [Lo.on, Between_spec all fr to (by omega), Option.bind_some]
          dsimp only
          have hfl := List.length_filter_le (inR fr to) all
          refine loopW_bind (fun k z => ∃ i : Nat, z = i ∧ i ≤ (all.filter (inR fr to)).length ∧ k = (all.filter (inR fr to)).length - i) (fun o => match o with | .dn _ => True | .rt _ => False) _ ⟨0, rfl, by omega, rfl⟩ ?_ ?_
          · rintro k z ⟨i, rfl, hi, rfl⟩
            by_cases hlt : i < (all.filter (inR fr to)).length
            · rw [if_pos (decide_eq_true (by omega)), wr1n (i := i) (by omega)]
              have hx := List.getElem?_eq_getElem hlt
              generalize (all.filter (inR fr to))[i] = x at hx
              have hin := (List.mem_filter.1 (List.mem_of_getElem? hx)).2
              unfold inR at hin
              rw [Bool.and_eq_true, decide_eq_true_iff, decide_eq_true_iff] at hin
              rw [at_nat, hx, Option.bind_some, if_neg (by rw [decide_eq_true_iff]; omega), Option.bind_some, Option.bind_some, if_neg (by rw [decide_eq_true_iff]; omega)]
              exact ⟨_, rfl, (all.filter (inR fr to)).length - (i + 1), by omega, i + 1, rfl, by omega, rfl⟩
            · rw [if_neg (by rw [decide_eq_true_iff]; omega)]
              exact ⟨_, rfl, trivial⟩
          · rintro (z | q) hq
            · rw [Lo.on, if_pos (decide_eq_true rfl), Gaps_spec all (by omega), Option.bind_some, Option.bind_some]
              exact ⟨_, rfl, by simp⟩
            · exact hq.elim
        · exact hq.elim
    · exact hq.elim
end Go.Sl
