/- The reference's signatures: its sums, walks and digits are the program's. -/
import Derived.Test.YtknpgjcnhneaaaaAuLwSha
import Derived.Test.YtknpgjcnhneaaaaAuLwSigN
set_option linter.unusedVariables false
set_option linter.unusedSimpArgs false
namespace Go.Sl
noncomputable def Sm (b : List UInt8) : List UInt8 := (hash_Sum b).getD []
theorem Sm_val {b : List UInt8} (h : b.length ≤ 1099511627776) : hash_Sum b = some (Sm b) ∧ narrowsref01_Sum b = some (Sm b) ∧ (Sm b).length = 32 := by
  obtain ⟨r, hr, hl⟩ := Sum_spec h
  obtain ⟨p, _, h1, h2⟩ := Sum_val h
  have e : Sm b = r := by unfold Sm; rw [hr]; rfl
  rw [e]
  refine ⟨hr, ?_, hl⟩
  rw [h2, ← h1, hr]
noncomputable def Sh (b : List UInt8) : ByteArray := (⟨⟨Sm b⟩⟩ : ByteArray).extract 0 8
theorem Sh_size {b : List UInt8} (h : b.length ≤ 1099511627776) : (Sh b).size = 8 := by
  have := (Sm_val h).2.2
  unfold Sh
  simp [ByteArray.size_extract, ByteArray.size, this]
theorem rShort_val {a : ByteArray} (h : a.size ≤ 1099511627776) : narrowsref01_Short a = some (Sh a.data.toList) := by
  have hl : a.data.toList.length ≤ 1099511627776 := by rw [data_len]; exact h
  obtain ⟨_, h2, h3⟩ := Sm_val hl
  unfold narrowsref01_Short
  rw [grd_pos (by omega), h2, Option.bind_some, grd_pos (by unfold okS; simp [ByteArray.size, h3])]
  rfl
theorem Short1_val {b : List UInt8} (h : b.length ≤ 1099511627776) : hash_Short_n1 b = some (Sh b) := by
  obtain ⟨h1, _, h3⟩ := Sm_val h
  unfold hash_Short_n1 hash_Text_n1
  rw [Cat1_val h, Option.bind_some, h1, Option.bind_some, Option.bind_some, grd_pos (by unfold okS; simp [ByteArray.size, h3])]
  rfl
theorem ShortL_val {l : List (List UInt8)} (h : l.flatten.length ≤ 1099511627776) : hash_Short l = some (Sh l.flatten) := by
  obtain ⟨h1, _, h3⟩ := Sm_val h
  unfold hash_Short hash_Text
  rw [Cat_val h, Option.bind_some, h1, Option.bind_some, Option.bind_some, grd_pos (by unfold okS; simp [ByteArray.size, h3])]
  rfl
theorem join_val {a b : ByteArray} (h : a.size ≤ 1000) (h2 : b.size ≤ 1000) : mss_join a b = some (Sh (a.data.toList ++ b.data.toList)) := by
  have hl : (a.data.toList ++ b.data.toList).length ≤ 1099511627776 := by rw [List.length_append, data_len, data_len]; omega
  obtain ⟨h1, _, h3⟩ := Sm_val hl
  unfold mss_join hash_Short_n2 hash_Text_n2
  rw [grd_pos (by omega), grd_pos (by omega), Cat2_spec (by rw [data_len, data_len]; omega), Option.bind_some, h1, Option.bind_some, Option.bind_some, grd_pos (by unfold okS; simp [ByteArray.size, h3])]
  rfl
noncomputable def wk (s : ByteArray) : Nat → ByteArray
  | 0 => s
  | k + 1 => Sh (wk s k).data.toList
theorem wk_size {s : ByteArray} (h : s.size = 8) : ∀ k, (wk s k).size = 8
  | 0 => h
  | k + 1 => by rw [wk]; exact Sh_size (by rw [data_len, wk_size h k]; omega)
def cl3 (n : Int) : Nat := (min (max n 0) 3).toNat
theorem Walk_val {s : ByteArray} {n : Int} (h : s.size = 8) : ots_Walk s n = some (wk s (cl3 n)) := by
  have key : Tt (ots_Walk s n) (fun r => r = wk s (cl3 n)) := by
    unfold ots_Walk
    obtain ⟨m, hm, hc⟩ : ∃ m, (if (3 : Int) < (if 0 > n then 0 else n) then 3 else (if 0 > n then 0 else n)) = m ∧ m = (cl3 n : Int) := ⟨_, rfl, by unfold cl3; split <;> omega⟩
    rw [hm]
    have h3 : cl3 n ≤ 3 := by unfold cl3; omega
    refine Tt.loopW (fun k t => ∃ i : Nat, t.1 = i ∧ k = 3 - i ∧ i ≤ cl3 n ∧ t.2 = wk s i) (fun t => t.2 = wk s (cl3 n)) 3 ⟨0, rfl, rfl, by omega, rfl⟩ ?_ fun t ht => .pure ht
    rintro k ⟨j, t⟩ ⟨i, rfl, rfl, hi, ht⟩
    dsimp only at *
    subst ht
    refine .ite (fun hp => ?_) (fun hp => .pure ?_)
    · rw [decide_eq_true_iff] at hp
      have hz := wk_size h i
      refine .grd (by omega) ?_
      rw [Short1_val (by rw [data_len]; omega), Option.bind_some]
      exact .pure ⟨3 - (i + 1), by omega, i + 1, by dsimp only; rw [wrap64 (by omega) (by omega)]; rfl, rfl, by omega, rfl⟩
    · rw [decide_eq_false_iff_not] at hp
      have : i = cl3 n := by omega
      rw [← this]; rfl
  obtain ⟨r, hr, rfl⟩ := key
  exact hr
theorem rWalk_val {s : ByteArray} {n : Int} (h : s.size = 8) : narrowsref04_Walk s n = some (wk s (cl3 n)) := by
  have key : Tt (narrowsref04_Walk s n) (fun r => r = wk s (cl3 n)) := by
    unfold narrowsref04_Walk
    have h3 : cl3 n ≤ 3 := by unfold cl3; omega
    refine Tt.loopW (fun k t => ∃ i : Nat, t.1 = i ∧ k = 3 - i ∧ i ≤ cl3 n ∧ t.2 = wk s i) (fun t => t.2 = wk s (cl3 n)) 3 ⟨0, rfl, rfl, by omega, rfl⟩ ?_ fun t ht => .pure ht
    rintro k ⟨j, t⟩ ⟨i, rfl, rfl, hi, ht⟩
    dsimp only at *
    subst ht
    have hci : ((i : Int) < n ∧ (i : Int) < 3) ↔ i < cl3 n := by unfold cl3; omega
    unfold thn
    refine .ite (fun hp => ?_) (fun hp => .pure ?_)
    · have hlt : i < cl3 n := by
        apply hci.1
        by_cases h1 : (i : Int) < n
        · by_cases h2 : (i : Int) < 3
          · exact ⟨h1, h2⟩
          · simp [h1, h2] at hp
        · simp [h1] at hp
      have hz := wk_size h i
      rw [rShort_val (by omega), Option.bind_some]
      exact .pure ⟨3 - (i + 1), by omega, i + 1, by dsimp only; rw [wrap64 (by omega) (by omega)]; rfl, rfl, by omega, rfl⟩
    · have hnl : ¬ i < cl3 n := fun hlt => by
        obtain ⟨h1, h2⟩ := hci.2 hlt
        simp [h1, h2] at hp
      have : i = cl3 n := by omega
      rw [← this]; rfl
  obtain ⟨r, hr, rfl⟩ := key
  exact hr
def spr (n : Int) : Nat → List Int
  | 0 => []
  | k + 1 => spr (n / 4) k ++ [n % 4]
theorem spr_len (k : Nat) : ∀ n, (spr n k).length = k := by
  induction k with
  | zero => intro n; rfl
  | succ k ih => intro n; simp [spr, ih]
theorem band3 {n : Int} (h0 : 0 ≤ n) (h : n < 4611686018427387904) : bandK .i64 n 3 = n % 4 := by
  obtain ⟨m, rfl⟩ := Int.eq_ofNat_of_zero_le h0
  have e0 : bandK .i64 (m : Int) 3 = IntKind.i64.wrap (((BitVec.ofNat 64 m &&& BitVec.ofNat 64 3).toNat : Nat) : Int) := rfl
  have e3 : (BitVec.ofNat 64 m &&& BitVec.ofNat 64 3).toNat = m % 4 := by
    rw [BitVec.toNat_and, BitVec.toNat_ofNat, BitVec.toNat_ofNat]
    have : m % 2 ^ 64 = m := Nat.mod_eq_of_lt (by omega)
    rw [this]
    exact Nat.and_two_pow_sub_one_eq_mod m 2
  rw [e0, e3, wrap64 (by omega) (by omega)]
  omega
theorem shr2 {n : Int} : shrK .i64 n 2 = n / 4 := by
  unfold shrK
  have : (2 : Int) ^ (min (2 : Int).toNat IntKind.i64.bits) = 4 := by decide
  rw [this]
  exact Int.fdiv_eq_ediv_of_nonneg _ (by decide)
theorem set_repI (j : Nat) (v : Int) (t : List Int) : (List.replicate (j + 1) 0 ++ t).set j v = List.replicate j 0 ++ v :: t := by
  rw [List.replicate_succ', List.append_assoc, List.set_append_right _ _ (by simp)]
  simp
theorem spread_val {n : Int} (h0 : 0 ≤ n) (h : n < 4611686018427387904) {k : Nat} (hk : k ≤ 100) : ots_spread n (k : Int) = some (spr n k) := by
  have key : Tt (ots_spread n (k : Int)) (fun r => r = spr n k) := by
    unfold ots_spread
    refine .grd (by omega) ?_
    have hl : (List.replicate (k : Int).toNat (0 : Int)).length = k := by simp
    have hr : List.replicate (k : Int).toNat (0 : Int) = List.replicate k 0 := by simp
    rw [hl, wrap64 (by omega) (by omega), hr]
    refine Tt.loopW (fun j (s : Int × List Int × List Int × Int) => s.1 = (j : Int) - 1 ∧ j ≤ k ∧ 0 ≤ s.2.2.2 ∧ s.2.2.2 < 4611686018427387904 ∧ ∃ t, s.2.1 = List.replicate j 0 ++ t ∧ spr n k = spr s.2.2.2 j ++ t) (fun s => s.2.1 = spr n k) k ⟨rfl, Nat.le_refl _, h0, h, [], by simp, by simp⟩ ?_ fun s hs => .pure hs
    rintro j ⟨i, l, l2, m⟩ ⟨rfl, hj, hm0, hm, t, rfl, hb⟩
    dsimp only at *
    cases j with
    | zero =>
      refine .ite (fun h => ?_) (fun _ => .pure ?_)
      · simp at h
      · simpa [CtP, spr] using hb.symm
    | succ j =>
      refine .ite (fun _ => ?_) (fun h => ?_)
      · refine .bind (Tt.at1 (by omega) (by simp; omega)) fun x _ => .bind (Tt.at1 (by omega) (by simp; omega)) fun y _ => .pure ?_
        have e : (((j + 1 : Nat) : Int) - 1).toNat = j := by omega
        refine ⟨j, by omega, ?_, by omega, ?_, ?_, m % 4 :: t, ?_, ?_⟩
        · dsimp only; rw [wrap64 (by omega) (by omega)]; omega
        · dsimp only; rw [shr2]; omega
        · dsimp only; rw [shr2]; omega
        · dsimp only; rw [e, set_repI, band3 hm0 hm]
        · dsimp only; rw [shr2, hb]; simp [spr]
      · rw [decide_eq_false_iff_not] at h; omega
  obtain ⟨r, hr, rfl⟩ := key
  exact hr
end Go.Sl
