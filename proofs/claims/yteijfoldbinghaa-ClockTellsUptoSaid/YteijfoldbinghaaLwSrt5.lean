/- The library's merging in place. -/
import Derived.Test.YteijfoldbinghaaLwSrt4
set_option linter.unusedVariables false
set_option linter.unusedSimpArgs false
namespace Go.Sl
theorem srt_lt {X : List clock_Stamp} (h : Srt tk X) {c : Nat} {u v : clock_Stamp} (hu : u ∈ X.take c) {w : clock_Stamp} (hw : X[c - 1]? = some w) : tk u ≤ tk w := by
  obtain ⟨i, hi⟩ := List.mem_iff_getElem?.1 hu
  have h1 := (List.getElem?_eq_some_iff.1 hi).1
  rw [List.length_take] at h1
  rw [List.getElem?_take_of_lt (by omega)] at hi
  exact srt_at h hi hw (by omega)
theorem srt_ge {X : List clock_Stamp} (h : Srt tk X) {c : Nat} {u : clock_Stamp} (hu : u ∈ X.drop c) {w : clock_Stamp} (hw : X[c]? = some w) : tk w ≤ tk u := by
  obtain ⟨i, hi⟩ := List.mem_iff_getElem?.1 hu
  rw [List.getElem?_drop] at hi
  exact srt_at h hw hi (by omega)
set_option maxHeartbeats 4000000 in
theorem merge_spec : ∀ (n : Nat) (P X Y Q : List clock_Stamp) {a m b : Int}, X ≠ [] → Y ≠ [] → Srt tk X → Srt tk Y → X.length + Y.length ≤ 2 ^ n → a = P.length → m = ((P.length + X.length : Nat) : Int) → b = ((P.length + X.length + Y.length : Nat) : Int) → P.length + X.length + Y.length ≤ 4194304 →
    ∃ Z, slices_symMergeCmpFunc_i168_m_f78_k n (P ++ (X ++ (Y ++ Q))) a m b = some (P ++ (Z ++ Q)) ∧ SK tk (X ++ Y) Z ∧ Srt tk Z := by
  intro n
  induction n with
  | zero =>
    intro P X Y Q a m b hX hY _ _ hl
    have hx := List.length_pos_iff.2 hX; have hy := List.length_pos_iff.2 hY
    have : (2 : Nat) ^ 0 = 1 := rfl
    omega
  | succ n ih =>
    intro P X Y Q a m b hX hY sX sY hl ha hm hb hlen
    have hx := List.length_pos_iff.2 hX; have hy := List.length_pos_iff.2 hY
    subst ha hm hb
    rw [slices_symMergeCmpFunc_i168_m_f78_k]
    have w1 : IntKind.i64.wrap (((P.length + X.length : Nat) : Int) - (P.length : Int)) = (X.length : Int) := by rw [wrN (by omega) (by omega)]; omega
    have w2 : IntKind.i64.wrap (((P.length + X.length + Y.length : Nat) : Int) - ((P.length + X.length : Nat) : Int)) = (Y.length : Int) := by rw [wrN (by omega) (by omega)]; omega
    rw [w1, w2]
    by_cases hX1 : X.length = 1
    · -- one on the left
      rw [if_pos (decide_eq_true (by omega))]
      obtain ⟨x, rfl⟩ := List.length_eq_one_iff.1 hX1
      obtain ⟨k, hk, h1, h2, h3, h4⟩ := search (β := List clock_Stamp) (lo := P.length + 1) (hi := P.length + 1 + Y.length) (f := (fun (s2 : Int × Int) => if (decide (s2.2 < s2.1)) = true then (Option.bind (at_ (P ++ ([x] ++ (Y ++ Q))) (IntKind.i64.wrap ((rshU (Ui (IntKind.i64.wrap (s2.2 + s2.1))) 1).toNat : Int))) fun (x15 : clock_Stamp) => Option.bind (at_ (P ++ ([x] ++ (Y ++ Q))) (P.length : Int)) fun (x22 : clock_Stamp) => if (decide (((clock_Merge_1 x15 x22)) < 0)) = true then (some (.nx ((s2.1, IntKind.i64.wrap ((IntKind.i64.wrap ((rshU (Ui (IntKind.i64.wrap (s2.2 + s2.1))) 1).toNat : Int)) + 1))))) else (some (.nx ((IntKind.i64.wrap ((rshU (Ui (IntKind.i64.wrap (s2.2 + s2.1))) 1).toNat : Int), s2.2))))) else (some (.br (s2.1, s2.2)))))
        (by omega) (by omega) (fun i => ∃ u, Y[i - (P.length + 1)]? = some u ∧ tk u < tk x) (fun i => ∃ u, Y[i - (P.length + 1)]? = some u ∧ tk x ≤ tk u) (fun i => by dsimp only; rw [if_neg (by simp)]) (fun i j hi hij hj => by
          dsimp only
          have hu := List.getElem?_eq_getElem (l := Y) (i := (i + j) / 2 - (P.length + 1)) (by omega)
          generalize Y[(i + j) / 2 - (P.length + 1)] = u at hu
          have g1 : (P ++ ([x] ++ (Y ++ Q)))[(i + j) / 2]? = some u := by
            have := at_part (P ++ [x]) Y Q hu (j := (i + j) / 2) (by simp; omega)
            simpa using this
          have g2 : (P ++ ([x] ++ (Y ++ Q)))[P.length]? = some x := by simp
          rw [if_pos (decide_eq_true (by omega)), half (by omega), at_nat, g1, Option.bind_some, at_nat, g2, Option.bind_some, cmp_d]
          by_cases hlt : tk u < tk x
          · left
            rw [if_pos (decide_eq_true hlt), wrN (by omega) (by omega)]
            exact ⟨rfl, u, hu, hlt⟩
          · right
            rw [if_neg (by simpa using hlt)]
            exact ⟨rfl, u, hu, by omega⟩)
      have e1 : ((P.length + [x].length + Y.length : Nat) : Int) = ((P.length + 1 + Y.length : Nat) : Int) := rfl
      have e2 : ((P.length + [x].length : Nat) : Int) = ((P.length + 1 : Nat) : Int) := rfl
      rw [e1, e2, hk, Option.bind_some, Lo.on]
      dsimp only
      obtain ⟨c, rfl⟩ : ∃ c, k = P.length + 1 + c := ⟨k - (P.length + 1), by omega⟩
      have w3 : IntKind.i64.wrap (((P.length + 1 + c : Nat) : Int) - 1) = ((P.length + c : Nat) : Int) := by rw [wrN (by omega) (by omega)]; omega
      rw [w3]
      have hform : P ++ ([x] ++ (Y ++ Q)) = P ++ (x :: (Y ++ Q)) := by simp
      rw [hform, move_right (c := c) P x Y Q (by omega) rfl rfl (by simp at hlen; omega), Option.bind_some, Lo.on]
      have hlow : ∀ u ∈ Y.take c, tk u < tk x := fun u hu => by
        by_cases hc : c = 0
        · subst hc; simp at hu
        · obtain ⟨w, hw, hwx⟩ := h3 (by omega)
          have : Y[c - 1]? = some w := by rw [← hw]; congr 1; omega
          have := srt_lt (v := w) sY hu this
          omega
      have hhigh : ∀ u ∈ Y.drop c, tk x ≤ tk u := fun u hu => by
        by_cases hc : c = Y.length
        · subst hc; simp at hu
        · obtain ⟨w, hw, hwx⟩ := h4 (by omega)
          have : Y[c]? = some w := by rw [← hw]; congr 1; omega
          have := srt_ge sY hu this
          omega
      refine ⟨Y.take c ++ x :: Y.drop c, by simp, ?_, ?_⟩
      · have h5 := SK.app (SK.swap (key := tk) (x := [x]) (y := Y.take c) fun u hu v hv => by rw [List.mem_singleton.1 hu]; exact hlow v hv) (SK.refl (key := tk) (a := Y.drop c))
        have e3 : [x] ++ Y = [x] ++ Y.take c ++ Y.drop c := by simp
        rw [e3]; simpa using h5
      · have hYs : Srt tk (Y.take c ++ Y.drop c) := by rw [List.take_append_drop]; exact sY
        refine Srt.app hYs.left (List.pairwise_cons.2 ⟨hhigh, hYs.right⟩) fun u hu v hv => ?_
        rcases List.mem_cons.1 hv with rfl | hv
        · exact Int.le_of_lt (hlow u hu)
        · exact hYs.cross u hu v hv
    rw [if_neg (by rw [decide_eq_true_iff]; omega)]
    by_cases hY1 : Y.length = 1
    · -- one on the right
      rw [if_pos (decide_eq_true (by omega))]
      obtain ⟨y, rfl⟩ := List.length_eq_one_iff.1 hY1
      obtain ⟨k, hk, h1, h2, h3, h4⟩ := search (β := List clock_Stamp) (lo := P.length) (hi := P.length + X.length) (f := (fun (s72 : Int × Int) => if (decide (s72.2 < s72.1)) = true then (Option.bind (at_ (P ++ (X ++ ([y] ++ Q))) ((P.length + X.length : Nat) : Int)) fun (x85 : clock_Stamp) => Option.bind (at_ (P ++ (X ++ ([y] ++ Q))) (IntKind.i64.wrap ((rshU (Ui (IntKind.i64.wrap (s72.2 + s72.1))) 1).toNat : Int))) fun (x92 : clock_Stamp) => if (!(decide (((clock_Merge_1 x85 x92)) < 0))) = true then (some (.nx ((s72.1, IntKind.i64.wrap ((IntKind.i64.wrap ((rshU (Ui (IntKind.i64.wrap (s72.2 + s72.1))) 1).toNat : Int)) + 1))))) else (some (.nx ((IntKind.i64.wrap ((rshU (Ui (IntKind.i64.wrap (s72.2 + s72.1))) 1).toNat : Int), s72.2))))) else (some (.br (s72.1, s72.2)))))
        (by omega) (by omega) (fun i => ∃ u, X[i - P.length]? = some u ∧ tk u ≤ tk y) (fun i => ∃ u, X[i - P.length]? = some u ∧ tk y < tk u) (fun i => by dsimp only; rw [if_neg (by simp)]) (fun i j hi hij hj => by
          dsimp only
          have hu := List.getElem?_eq_getElem (l := X) (i := (i + j) / 2 - P.length) (by omega)
          generalize X[(i + j) / 2 - P.length] = u at hu
          have g1 : (P ++ (X ++ ([y] ++ Q)))[(i + j) / 2]? = some u := at_part P X ([y] ++ Q) hu (by omega)
          have g2 : (P ++ (X ++ ([y] ++ Q)))[P.length + X.length]? = some y := by
            simp
          rw [if_pos (decide_eq_true (by omega)), half (by omega), at_nat, g2, Option.bind_some, at_nat, g1, Option.bind_some, cmp_d]
          by_cases hlt : tk y < tk u
          · right
            rw [decide_eq_true hlt]
            exact ⟨rfl, u, hu, hlt⟩
          · left
            rw [decide_eq_false hlt, wrN (n := (((i + j) / 2 : Nat) : Int) + 1) (by omega) (by omega)]
            exact ⟨rfl, u, hu, by omega⟩)
      rw [hk, Option.bind_some, Lo.on]
      dsimp only
      obtain ⟨c, rfl⟩ : ∃ c, k = P.length + c := ⟨k - P.length, by omega⟩
      have hform : P ++ (X ++ ([y] ++ Q)) = P ++ (X ++ y :: Q) := by simp
      rw [hform, move_left (c := c) P X y Q (by omega) rfl rfl (by omega), Option.bind_some, Lo.on]
      have hlow : ∀ u ∈ X.take c, tk u ≤ tk y := fun u hu => by
        by_cases hc : c = 0
        · subst hc; simp at hu
        · obtain ⟨w, hw, hwx⟩ := h3 (by omega)
          have : X[c - 1]? = some w := by rw [← hw]; congr 1; omega
          have := srt_lt (v := w) sX hu this
          omega
      have hhigh : ∀ u ∈ X.drop c, tk y < tk u := fun u hu => by
        by_cases hc : c = X.length
        · subst hc; simp at hu
        · obtain ⟨w, hw, hwx⟩ := h4 (by omega)
          have : X[c]? = some w := by rw [← hw]; congr 1; omega
          have := srt_ge sX hu this
          omega
      have hXs : Srt tk (X.take c ++ X.drop c) := by rw [List.take_append_drop]; exact sX
      refine ⟨X.take c ++ y :: X.drop c, by simp, ?_, ?_⟩
      · have h5 := sk_ins (T1 := X.take c) hhigh
        rwa [List.take_append_drop] at h5
      · refine Srt.app hXs.left (List.pairwise_cons.2 ⟨fun u hu => Int.le_of_lt (hhigh u hu), hXs.right⟩) fun u hu v hv => ?_
        rcases List.mem_cons.1 hv with rfl | hv
        · exact hlow u hu
        · exact hXs.cross u hu v hv
    rw [if_neg (by rw [decide_eq_true_iff]; omega)]
    -- both are longer
    obtain ⟨p, hp⟩ : ∃ p, X.length = p := ⟨_, rfl⟩
    obtain ⟨q, hq⟩ : ∃ q, Y.length = q := ⟨_, rfl⟩
    obtain ⟨h, hh⟩ : ∃ h, (p + q) / 2 = h := ⟨_, rfl⟩
    rw [hp, hq] at hl hlen
    rw [hp] at hX1 hx
    rw [hq] at hY1 hy
    have hmid : IntKind.i64.wrap ((rshU (Ui (IntKind.i64.wrap ((P.length : Int) + ((P.length + p + q : Nat) : Int)))) 1).toNat : Int) = ((P.length + h : Nat) : Int) := by
      rw [half (by omega)]; congr 1; omega
    rw [hp, hq, hmid]
    have hn : IntKind.i64.wrap (((P.length + h : Nat) : Int) + ((P.length + p : Nat) : Int)) = ((2 * P.length + h + p : Nat) : Int) := by rw [wrN (by omega) (by omega)]; omega
    have hpn : IntKind.i64.wrap (((2 * P.length + h + p : Nat) : Int) - 1) = ((2 * P.length + h + p - 1 : Nat) : Int) := by rw [wrN (by omega) (by omega)]; omega
    rw [hn, hpn]
    obtain ⟨lo, hi, hlh, hlo, hhi⟩ : ∃ lo hi : Nat, lo ≤ hi ∧ (if p > h then lo + q = h else lo = 0) ∧ (if p > h then hi = h else hi = p) := by
      by_cases hc : p > h
      · exact ⟨h - q, h, by omega, by rw [if_pos hc]; omega, by rw [if_pos hc]⟩
      · exact ⟨0, p, by omega, by rw [if_neg hc], by rw [if_neg hc]⟩
    have hlb : hi ≤ p ∧ hi ≤ h ∧ h ≤ q + lo := by
      by_cases hc : p > h
      · rw [if_pos hc] at hlo hhi; omega
      · rw [if_neg hc] at hlo hhi; omega
    have hstart : (if (decide (((P.length + p : Nat) : Int) > ((P.length + h : Nat) : Int))) = true then (((P.length + h : Nat) : Int), IntKind.i64.wrap (((2 * P.length + h + p : Nat) : Int) - ((P.length + p + q : Nat) : Int))) else (((P.length + p : Nat) : Int), (P.length : Int))) = (((P.length + hi : Nat) : Int), ((P.length + lo : Nat) : Int)) := by
      by_cases hc : p > h
      · rw [if_pos hc] at hlo hhi
        rw [if_pos (decide_eq_true (by omega)), wrN (by omega) (by omega)]
        congr 1 <;> omega
      · rw [if_neg hc] at hlo hhi
        rw [if_neg (by rw [decide_eq_true_iff]; omega)]
        congr 1 <;> omega
    unfold thn
    rw [hstart]
    dsimp only
    obtain ⟨k, hk, h1, h2, h3, h4⟩ := search (β := List clock_Stamp) (lo := P.length + lo) (hi := P.length + hi) (f := (fun (s145 : Int × Int) => if (decide (s145.2 < s145.1)) = true then (Option.bind (at_ (P ++ (X ++ (Y ++ Q))) (IntKind.i64.wrap (((2 * P.length + h + p - 1 : Nat) : Int) - (IntKind.i64.wrap ((rshU (Ui (IntKind.i64.wrap (s145.2 + s145.1))) 1).toNat : Int))))) fun (x158 : clock_Stamp) => Option.bind (at_ (P ++ (X ++ (Y ++ Q))) (IntKind.i64.wrap ((rshU (Ui (IntKind.i64.wrap (s145.2 + s145.1))) 1).toNat : Int))) fun (x165 : clock_Stamp) => if (!(decide (((clock_Merge_1 x158 x165)) < 0))) = true then (some (.nx ((s145.1, IntKind.i64.wrap ((IntKind.i64.wrap ((rshU (Ui (IntKind.i64.wrap (s145.2 + s145.1))) 1).toNat : Int)) + 1))))) else (some (.nx ((IntKind.i64.wrap ((rshU (Ui (IntKind.i64.wrap (s145.2 + s145.1))) 1).toNat : Int), s145.2))))) else (some (.br (s145.1, s145.2)))))
      (by omega) (by omega) (fun i => ∃ u v, X[i - P.length]? = some u ∧ Y[h - 1 - (i - P.length)]? = some v ∧ tk u ≤ tk v) (fun i => ∃ u v, X[i - P.length]? = some u ∧ Y[h - 1 - (i - P.length)]? = some v ∧ tk v < tk u) (fun i => by dsimp only; rw [if_neg (by simp)]) (fun i j hi' hij hj => by
        dsimp only
        obtain ⟨c, hc⟩ : ∃ c, (i + j) / 2 = P.length + c := ⟨(i + j) / 2 - P.length, by omega⟩
        have hu := List.getElem?_eq_getElem (l := X) (i := c) (by omega)
        generalize X[c] = u at hu
        have hv := List.getElem?_eq_getElem (l := Y) (i := h - 1 - c) (by omega)
        generalize Y[h - 1 - c] = v at hv
        have g1 : (P ++ (X ++ (Y ++ Q)))[P.length + c]? = some u := at_part P X (Y ++ Q) hu rfl
        have g2 : (P ++ (X ++ (Y ++ Q)))[2 * P.length + h + p - 1 - (P.length + c)]? = some v := by
          have := at_part (P ++ X) Y Q hv (j := 2 * P.length + h + p - 1 - (P.length + c)) (by simp; omega)
          simpa using this
        have w3 : IntKind.i64.wrap (((2 * P.length + h + p - 1 : Nat) : Int) - ((P.length + c : Nat) : Int)) = ((2 * P.length + h + p - 1 - (P.length + c) : Nat) : Int) := by rw [wrN (by omega) (by omega)]; omega
        have hsub : P.length + c - P.length = c := by omega
        rw [if_pos (decide_eq_true (by omega)), half (by omega), hc, w3, at_nat, g2, Option.bind_some, at_nat, g1, Option.bind_some, cmp_d, hsub]
        by_cases hlt : tk v < tk u
        · right
          rw [decide_eq_true hlt]
          exact ⟨rfl, u, v, hu, hv, hlt⟩
        · left
          rw [decide_eq_false hlt, wrN (n := ((P.length + c : Nat) : Int) + 1) (by omega) (by omega)]
          exact ⟨rfl, u, v, hu, hv, by omega⟩)
    rw [hk, Option.bind_some, Lo.on]
    dsimp only
    obtain ⟨c, rfl⟩ : ∃ c, k = P.length + c := ⟨k - P.length, by omega⟩
    obtain ⟨e, he⟩ : ∃ e, h = c + e := ⟨h - c, by omega⟩
    have hend : IntKind.i64.wrap (((2 * P.length + h + p : Nat) : Int) - ((P.length + c : Nat) : Int)) = ((P.length + p + e : Nat) : Int) := by rw [wrN (by omega) (by omega)]; omega
    rw [hend]
    -- the four parts
    have hX12 : X = X.take c ++ X.drop c := (List.take_append_drop _ _).symm
    have hY12 : Y = Y.take e ++ Y.drop e := (List.take_append_drop _ _).symm
    have lX1 : (X.take c).length = c := by simp; omega
    have lX2 : (X.drop c).length = p - c := by simp; omega
    have lY1 : (Y.take e).length = e := by simp; omega
    have lY2 : (Y.drop e).length = q - e := by simp; omega
    have hXY2 : ∀ u ∈ X.take c, ∀ v ∈ Y.drop e, tk u ≤ tk v := fun u hu v hv => by
      by_cases hc : lo < c
      · obtain ⟨x0, y0, hx0, hy0, hle⟩ := h3 (by omega)
        have e1 : X[c - 1]? = some x0 := by rw [← hx0]; congr 1; omega
        have e2 : Y[e]? = some y0 := by rw [← hy0]; congr 1; omega
        have := srt_lt (v := x0) sX hu e1
        have := srt_ge sY hv e2
        omega
      · exfalso
        by_cases hph : p > h
        · rw [if_pos hph] at hlo
          have : e = q := by omega
          rw [← hq] at this
          subst this; simp at hv
        · rw [if_neg hph] at hlo
          have : c = 0 := by omega
          subst this; simp at hu
    have hYX2 : ∀ u ∈ X.drop c, ∀ v ∈ Y.take e, tk v < tk u := fun u hu v hv => by
      by_cases hc : c < hi
      · obtain ⟨x0, y0, hx0, hy0, hle⟩ := h4 (by omega)
        have e1 : X[c]? = some x0 := by rw [← hx0]; congr 1; omega
        have e2 : Y[e - 1]? = some y0 := by rw [← hy0]; congr 1; omega
        have := srt_lt (v := y0) sY hv e2
        have := srt_ge sX hu e1
        omega
      · exfalso
        by_cases hph : p > h
        · rw [if_pos hph] at hhi
          have : e = 0 := by omega
          subst this; simp at hv
        · rw [if_neg hph] at hhi
          have : c = p := by omega
          rw [← hp] at this
          subst this; simp at hu
    have sX12 : Srt tk (X.take c ++ X.drop c) := by rw [← hX12]; exact sX
    have sY12 : Srt tk (Y.take e ++ Y.drop e) := by rw [← hY12]; exact sY
    -- turned
    have hrot : (if (if (decide (((P.length + c : Nat) : Int) < ((P.length + p : Nat) : Int))) = true then (decide (((P.length + p : Nat) : Int) < ((P.length + p + e : Nat) : Int))) else false) = true then (Option.bind (slices_rotateCmpFunc_i196_m_f78 (P ++ (X ++ (Y ++ Q))) ((P.length + c : Nat) : Int) ((P.length + p : Nat) : Int) ((P.length + p + e : Nat) : Int)) fun r182 => some r182) else (some (P ++ (X ++ (Y ++ Q))))) = some (P ++ (X.take c ++ (Y.take e ++ (X.drop c ++ (Y.drop e ++ Q))))) := by
      have hform : P ++ (X ++ (Y ++ Q)) = (P ++ X.take c) ++ (X.drop c ++ (Y.take e ++ (Y.drop e ++ Q))) := by
        conv => lhs; rw [hX12, hY12]
        simp only [List.append_assoc]
      by_cases hce : c < p ∧ 0 < e
      · have hb : (if (decide (((P.length + c : Nat) : Int) < ((P.length + p : Nat) : Int))) = true then (decide (((P.length + p : Nat) : Int) < ((P.length + p + e : Nat) : Int))) else false) = true := by
          rw [if_pos (decide_eq_true (by omega))]; exact decide_eq_true (by omega)
        rw [hb, if_pos rfl, hform, rotate_spec (P ++ X.take c) (X.drop c) (Y.take e) (Y.drop e ++ Q) (List.length_pos_iff.1 (by omega)) (List.length_pos_iff.1 (by omega)) (by simp; omega) (by simp; omega) (by simp; omega) (by simp; omega)]
        simp
      · have hb : (if (decide (((P.length + c : Nat) : Int) < ((P.length + p : Nat) : Int))) = true then (decide (((P.length + p : Nat) : Int) < ((P.length + p + e : Nat) : Int))) else false) = false := by
          split
          · exact decide_eq_false (by rename_i hz; rw [decide_eq_true_iff] at hz; omega)
          · rfl
        rw [hb, if_neg (by decide), hform]
        by_cases h0 : e = 0
        · subst h0; simp
        · have : c = p := by omega
          have : X.drop c = [] := List.drop_of_length_le (by omega)
          rw [this]; simp
    rw [hrot, Option.bind_some]
    have hpow : 2 ^ (n + 1) = 2 * 2 ^ n := Nat.pow_succ'
    -- below
    have hlow : ∃ Z1, (if (if (decide ((P.length : Int) < ((P.length + c : Nat) : Int))) = true then (decide (((P.length + c : Nat) : Int) < ((P.length + h : Nat) : Int))) else false) = true then (Option.bind (slices_symMergeCmpFunc_i168_m_f78_k n (P ++ (X.take c ++ (Y.take e ++ (X.drop c ++ (Y.drop e ++ Q))))) (P.length : Int) ((P.length + c : Nat) : Int) ((P.length + h : Nat) : Int)) fun r192 => some r192) else (some (P ++ (X.take c ++ (Y.take e ++ (X.drop c ++ (Y.drop e ++ Q))))))) = some (P ++ (Z1 ++ (X.drop c ++ (Y.drop e ++ Q)))) ∧ SK tk (X.take c ++ Y.take e) Z1 ∧ Srt tk Z1 := by
      by_cases hce : 0 < c ∧ c < h
      · have hb : (if (decide ((P.length : Int) < ((P.length + c : Nat) : Int))) = true then (decide (((P.length + c : Nat) : Int) < ((P.length + h : Nat) : Int))) else false) = true := by
          rw [if_pos (decide_eq_true (by omega))]; exact decide_eq_true (by omega)
        obtain ⟨Z1, hZ, h5, h6⟩ := ih P (X.take c) (Y.take e) (X.drop c ++ (Y.drop e ++ Q)) (a := (P.length : Int)) (m := ((P.length + c : Nat) : Int)) (b := ((P.length + h : Nat) : Int)) (List.length_pos_iff.1 (by omega)) (List.length_pos_iff.1 (by omega)) sX12.left sY12.left (by omega) rfl (by rw [lX1]) (by rw [lX1, lY1]; congr 1; omega) (by omega)
        rw [hb, if_pos rfl, hZ]
        exact ⟨Z1, rfl, h5, h6⟩
      · have hb : (if (decide ((P.length : Int) < ((P.length + c : Nat) : Int))) = true then (decide (((P.length + c : Nat) : Int) < ((P.length + h : Nat) : Int))) else false) = false := by
          split
          · exact decide_eq_false (by rename_i hz; rw [decide_eq_true_iff] at hz; omega)
          · rfl
        rw [hb, if_neg (by decide)]
        refine ⟨X.take c ++ Y.take e, by simp, SK.refl, ?_⟩
        by_cases h0 : c = 0
        · have : X.take c = [] := by rw [h0]; rfl
          rw [this]; exact sY12.left
        · have : Y.take e = [] := by
            have : e = 0 := by omega
            rw [this]; rfl
          rw [this, List.append_nil]; exact sX12.left
    obtain ⟨Z1, hZ1, kZ1, sZ1⟩ := hlow
    rw [hZ1, Option.bind_some]
    have lZ1 : Z1.length = h := by rw [← kZ1.len, List.length_append, lX1, lY1]; omega
    have hhigh : ∃ Z2, (if (if (decide (((P.length + h : Nat) : Int) < ((P.length + p + e : Nat) : Int))) = true then (decide (((P.length + p + e : Nat) : Int) < ((P.length + p + q : Nat) : Int))) else false) = true then (Option.bind (slices_symMergeCmpFunc_i168_m_f78_k n (P ++ (Z1 ++ (X.drop c ++ (Y.drop e ++ Q)))) ((P.length + h : Nat) : Int) ((P.length + p + e : Nat) : Int) ((P.length + p + q : Nat) : Int)) fun r149 => some r149) else (some (P ++ (Z1 ++ (X.drop c ++ (Y.drop e ++ Q)))))) = some (P ++ ((Z1 ++ Z2) ++ Q)) ∧ SK tk (X.drop c ++ Y.drop e) Z2 ∧ Srt tk Z2 := by
      by_cases hce : c < p ∧ e < q
      · have hb : (if (decide (((P.length + h : Nat) : Int) < ((P.length + p + e : Nat) : Int))) = true then (decide (((P.length + p + e : Nat) : Int) < ((P.length + p + q : Nat) : Int))) else false) = true := by
          rw [if_pos (decide_eq_true (by omega))]; exact decide_eq_true (by omega)
        have hform : P ++ (Z1 ++ (X.drop c ++ (Y.drop e ++ Q))) = (P ++ Z1) ++ (X.drop c ++ (Y.drop e ++ Q)) := by simp
        obtain ⟨Z2, hZ, h5, h6⟩ := ih (P ++ Z1) (X.drop c) (Y.drop e) Q (a := ((P.length + h : Nat) : Int)) (m := ((P.length + p + e : Nat) : Int)) (b := ((P.length + p + q : Nat) : Int)) (List.length_pos_iff.1 (by omega)) (List.length_pos_iff.1 (by omega)) sX12.right sY12.right (by omega) (by rw [List.length_append, lZ1]) (by rw [List.length_append, lZ1, lX2]; congr 1; omega) (by rw [List.length_append, lZ1, lX2, lY2]; congr 1; omega) (by rw [List.length_append, lZ1, lX2, lY2]; omega)
        rw [hb, if_pos rfl, hform, hZ]
        exact ⟨Z2, by simp, h5, h6⟩
      · have hb : (if (decide (((P.length + h : Nat) : Int) < ((P.length + p + e : Nat) : Int))) = true then (decide (((P.length + p + e : Nat) : Int) < ((P.length + p + q : Nat) : Int))) else false) = false := by
          split
          · exact decide_eq_false (by rename_i hz; rw [decide_eq_true_iff] at hz; omega)
          · rfl
        rw [hb, if_neg (by decide)]
        refine ⟨X.drop c ++ Y.drop e, by simp, SK.refl, ?_⟩
        by_cases h0 : c = p
        · have : X.drop c = [] := List.drop_of_length_le (by omega)
          rw [this]; exact sY12.right
        · have : Y.drop e = [] := List.drop_of_length_le (by omega)
          rw [this, List.append_nil]; exact sX12.right
    obtain ⟨Z2, hZ2, kZ2, sZ2⟩ := hhigh
    refine ⟨Z1 ++ Z2, hZ2, ?_, ?_⟩
    · refine SK.trans ?_ (SK.app kZ1 kZ2)
      have h5 := SK.app (SK.refl (key := tk) (a := X.take c)) (SK.app (SK.swap (key := tk) (x := X.drop c) (y := Y.take e) hYX2) (SK.refl (key := tk) (a := Y.drop e)))
      have e1 : X ++ Y = X.take c ++ ((X.drop c ++ Y.take e) ++ Y.drop e) := by
        conv => lhs; rw [hX12, hY12]
        simp only [List.append_assoc]
      rw [e1]
      simpa using h5
    · refine Srt.app sZ1 sZ2 fun u hu v hv => ?_
      rcases List.mem_append.1 (kZ1.mem.2 hu) with hu | hu
      · rcases List.mem_append.1 (kZ2.mem.2 hv) with hv | hv
        · exact sX12.cross u hu v hv
        · exact hXY2 u hu v hv
      · rcases List.mem_append.1 (kZ2.mem.2 hv) with hv | hv
        · exact Int.le_of_lt (hYX2 v hv u hu)
        · exact sY12.cross u hu v hv
end Go.Sl
