/- The reference's hash is the program's. -/
import Derived.Test.YtknpgjcnhneaaaaAuLwHash2
set_option linter.unusedVariables false
set_option linter.unusedSimpArgs false
namespace Go.Sl
theorem turn_2 (x : UInt32) : hash_rotr x 2 = narrowsref01_turn x 2 := by
  unfold hash_rotr bits_RotateLeft32 narrowsref01_turn
  rw [UInt32.or_comm]
  rfl
theorem turn_6 (x : UInt32) : hash_rotr x 6 = narrowsref01_turn x 6 := by
  unfold hash_rotr bits_RotateLeft32 narrowsref01_turn
  rw [UInt32.or_comm]
  rfl
theorem turn_7 (x : UInt32) : hash_rotr x 7 = narrowsref01_turn x 7 := by
  unfold hash_rotr bits_RotateLeft32 narrowsref01_turn
  rw [UInt32.or_comm]
  rfl
theorem turn_11 (x : UInt32) : hash_rotr x 11 = narrowsref01_turn x 11 := by
  unfold hash_rotr bits_RotateLeft32 narrowsref01_turn
  rw [UInt32.or_comm]
  rfl
theorem turn_13 (x : UInt32) : hash_rotr x 13 = narrowsref01_turn x 13 := by
  unfold hash_rotr bits_RotateLeft32 narrowsref01_turn
  rw [UInt32.or_comm]
  rfl
theorem turn_17 (x : UInt32) : hash_rotr x 17 = narrowsref01_turn x 17 := by
  unfold hash_rotr bits_RotateLeft32 narrowsref01_turn
  rw [UInt32.or_comm]
  rfl
theorem turn_18 (x : UInt32) : hash_rotr x 18 = narrowsref01_turn x 18 := by
  unfold hash_rotr bits_RotateLeft32 narrowsref01_turn
  rw [UInt32.or_comm]
  rfl
theorem turn_19 (x : UInt32) : hash_rotr x 19 = narrowsref01_turn x 19 := by
  unfold hash_rotr bits_RotateLeft32 narrowsref01_turn
  rw [UInt32.or_comm]
  rfl
theorem turn_22 (x : UInt32) : hash_rotr x 22 = narrowsref01_turn x 22 := by
  unfold hash_rotr bits_RotateLeft32 narrowsref01_turn
  rw [UInt32.or_comm]
  rfl
theorem turn_25 (x : UInt32) : hash_rotr x 25 = narrowsref01_turn x 25 := by
  unfold hash_rotr bits_RotateLeft32 narrowsref01_turn
  rw [UInt32.or_comm]
  rfl
theorem three_val {x : UInt32} {a b c : Int} : hash_three x a b c false = some ((hash_rotr x a ^^^ hash_rotr x b) ^^^ hash_rotr x c) := by
  unfold hash_three
  rw [if_neg (by simp)]
theorem threeS_val {x : UInt32} {a b c : Int} (h : 0 ≤ c) : hash_three x a b c true = some ((hash_rotr x a ^^^ hash_rotr x b) ^^^ rshW4 x c) := by
  unfold hash_three
  rw [if_pos rfl, grd_pos h]
/-- The reference's number of octets. -/
theorem rInt_val {b : List UInt8} (h : b.length ≤ 1099511627776) : narrowsref01_Int b = some (bn (b.take 7) : Int) := by
  have key : Tt (narrowsref01_Int b) (fun r => r = (bn (b.take 7) : Int)) := by
    unfold narrowsref01_Int
    refine Tt.loopW (fun k s => ∃ i : Nat, s.1 = i ∧ i ≤ 7 ∧ i ≤ b.length ∧ k = 7 - i ∧ s.2 = (bn (b.take i) : Int)) (fun s => s.2 = (bn (b.take 7) : Int)) 7 ⟨0, rfl, by omega, by omega, rfl, by simp [bn]⟩ ?_ fun s hs => .pure hs
    rintro k ⟨i0, n⟩ ⟨i, rfl, hi, hl, rfl, hn⟩
    dsimp only at hn
    subst hn
    unfold thn
    dsimp only
    refine .ite (fun hp => ?_) fun hp => .pure ?_
    · have h1 : i < b.length := by by_cases h : (i : Int) < (b.length : Int); omega; simp [h] at hp
      have h2 : i < 7 := by by_cases h : (i : Int) < 7; omega; simp [h] at hp
      refine .bind (Tt.at_ (Q := fun x => b[i]? = some x) (by omega) (by omega) fun x hx => hx) fun x hx => ?_
      have ht : b.take (i + 1) = b.take i ++ [x] := by rw [List.take_add_one, hx]; rfl
      have hb := bn_lt7 (l := b.take i) (by rw [List.length_take]; omega)
      have hb2 := bn_lt (b.take i)
      have hx8 := b8 x
      refine .pure ⟨7 - (i + 1), by omega, i + 1, ?_, by omega, by omega, rfl, ?_⟩
      · dsimp only; rw [wrap64 (by omega) (by omega)]; rfl
      · dsimp only
        rw [ht, bn_snoc, wrap64 (n := (bn (b.take i) : Int) * 256) (by omega) (by omega), wrap64 (by omega) (by omega)]
        omega
    · have : ¬ i < 7 ∨ ¬ i < b.length := by
        by_cases h1 : i < b.length
        · left; intro h2
          have e1 : (i : Int) < (b.length : Int) := by omega
          have e2 : (i : Int) < 7 := by omega
          simp [e1, e2] at hp
        · exact .inr h1
      show (bn (b.take i) : Int) = _
      rcases this with h1 | h1
      · have : i = 7 := by omega
        rw [this]
      · have : i = b.length := by omega
        rw [this, List.take_length, List.take_of_length_le (by omega)]
  obtain ⟨r, hr, rfl⟩ := key
  exact hr
theorem emod256 (n Q : Int) (hQ : 0 < Q) : n % (256 * Q) = 256 * ((n / 256) % Q) + n % 256 := by
  have h2 : n / 256 = Q * ((n / 256) / Q) + (n / 256) % Q := (Int.mul_ediv_add_emod (n / 256) Q).symm
  have h3 := Int.emod_nonneg (n / 256) (show Q ≠ 0 by omega)
  have h4 := Int.emod_lt_of_pos (n / 256) hQ
  generalize (n / 256) / Q = a at h2
  generalize (n / 256) % Q = b at *
  have h5 : n = (256 * b + n % 256) + (256 * Q) * a := by rw [Int.mul_assoc]; omega
  have h6 : n % (256 * Q) = (256 * b + n % 256) % (256 * Q) := by
    conv => lhs; rw [h5]
    exact Int.add_mul_emod_self_left ..
  rw [h6]
  exact Int.emod_eq_of_lt (by omega) (by omega)
theorem be_mod (k : Nat) : ∀ (j : Nat) (n : Int), k ≤ j → be n k = be (n % 256 ^ j) k := by
  induction k with
  | zero => intro j n _; rfl
  | succ k ih =>
    intro j n h
    cases j with
    | zero => omega
    | succ j =>
      have hp : (256 : Int) ^ (j + 1) = 256 * 256 ^ j := by rw [Int.pow_succ, Int.mul_comm]
      have hq : (0 : Int) < 256 ^ j := Int.pow_pos (by decide)
      have hm := emod256 n (256 ^ j) hq
      rw [hp, be, be, ih j (n / 256) (by omega), hm]
      have e1 : (256 * ((n / 256) % 256 ^ j) + n % 256) / 256 = (n / 256) % 256 ^ j := by omega
      have e2 : (256 * ((n / 256) % 256 ^ j) + n % 256) % 256 = n % 256 := by omega
      rw [e1]
      unfold B8i
      rw [e2]
theorem Ui_mod (n : Int) : ((Ui n).toNat : Int) = n % 18446744073709551616 := by
  unfold Ui
  have h0 : (0 : Int) ≤ n % 18446744073709551616 := Int.emod_nonneg _ (by decide)
  have h1 : n % 18446744073709551616 < 18446744073709551616 := Int.emod_lt_of_pos _ (by decide)
  have h2 : (n % 18446744073709551616).toNat < 18446744073709551616 := by omega
  rw [UInt64.toNat_ofNat_of_lt' h2]
  omega
theorem rNum_val (n : Int) {k : Nat} (hk : k ≤ 8) : narrowsref01_Num n (k : Int) = some (be n k) := by
  have hbe : be n k = be ((Ui n).toNat : Int) k := by rw [Ui_mod, be_mod k 8 n hk]; rfl
  have key : Tt (narrowsref01_Num n (k : Int)) (fun r => r = be n k) := by
    unfold narrowsref01_Num
    have hm : (if 8 < (if (0 : Int) > (k : Int) then 0 else (k : Int)) then 8 else (if (0 : Int) > (k : Int) then 0 else (k : Int))) = (k : Int) := by
      rw [if_neg (show ¬ (0 : Int) > (k : Int) by omega), if_neg (by omega)]
    rw [hm]
    refine .grd (by omega) ?_
    have hr : List.replicate (k : Int).toNat (0 : UInt8) = List.replicate k 0 := by simp
    rw [hr, wrap64 (by omega) (by omega)]
    refine Tt.loopW (fun j s => s.1 = (j : Int) - 1 ∧ j ≤ k ∧ ∃ t, s.2.2 = List.replicate j 0 ++ t ∧ be n k = be (s.2.1.toNat : Int) j ++ t) (fun s => s.2.2 = be n k) k ⟨rfl, Nat.le_refl _, [], by simp, by simpa using hbe⟩ ?_ fun s hs => .pure hs
    rintro j ⟨i, u, l⟩ ⟨rfl, hj, t, rfl, hb⟩
    dsimp only at *
    cases j with
    | zero =>
      refine .ite (fun h => ?_) (fun _ => .pure ?_)
      · simp at h
      · simpa [CtP, be] using hb.symm
    | succ j =>
      refine .ite (fun _ => ?_) (fun h => ?_)
      · refine .bind (Tt.at1 (by omega) (by simp; omega)) fun x _ => .pure ?_
        have e : (((j + 1 : Nat) : Int) - 1).toNat = j := by omega
        have hu : ((u / 256).toNat : Int) = (u.toNat : Int) / 256 := by
          rw [UInt64.toNat_div]; rfl
        have hv : B8i ((u % 256).toNat : Int) = B8i (u.toNat : Int) := by
          unfold B8i
          have : (((u % 256).toNat : Nat) : Int) % 256 = (u.toNat : Int) % 256 := by
            rw [UInt64.toNat_mod]
            have : (256 : UInt64).toNat = 256 := rfl
            rw [this]; omega
          rw [this]
        refine ⟨j, by omega, ?_, by omega, B8i (u.toNat : Int) :: t, ?_, ?_⟩
        · dsimp only; rw [wrap64 (by omega) (by omega)]; omega
        · dsimp only; rw [e, set_rep, hv]
        · dsimp only; rw [hu, hb]; simp [be]
      · rw [decide_eq_false_iff_not] at h; omega
  obtain ⟨r, hr, rfl⟩ := key
  exact hr
theorem rCat_val {a b : List UInt8} (h : a.length + b.length ≤ 109951162777600) : narrowsref01_Cat a b = some (a ++ b) := by
  unfold narrowsref01_Cat
  rw [grd_pos (by simp; omega), grd_pos (by simp; omega)]
  rfl
theorem Pad_eq {b : List UInt8} (h : b.length ≤ 1099511627776) : narrowsref01_Pad b = hash_Pad b := by
  obtain ⟨r, hr, h1, h2⟩ := Pad_spec h
  unfold narrowsref01_Pad hash_Pad slices_Clone_byte at *
  rw [rCat_val (by simp; omega), Option.bind_some]
  rw [grd_pos (by simp; omega), Option.bind_some, grd_pos (by simp; omega)] at hr ⊢
  simp only [List.nil_append] at hr ⊢
  generalize hL : loopW _ _ = L at hr ⊢
  cases L with
  | none => simp at hr
  | some o =>
    cases o with
    | rt r => rfl
    | dn s =>
      simp only [Option.bind_some, Lo.on] at hr ⊢
      have e8 : blob_Num (IntKind.i64.wrap (8 * (b.length : Int))) 8 = some (be (IntKind.i64.wrap (8 * (b.length : Int))) 8) := Num_val _ (k := 8) (by omega)
      have e9 : narrowsref01_Num (IntKind.i64.wrap (8 * (b.length : Int))) 8 = some (be (IntKind.i64.wrap (8 * (b.length : Int))) 8) := rNum_val _ (k := 8) (by omega)
      rw [e8, Option.bind_some] at hr ⊢
      rw [e9, Option.bind_some]
      have hg := hr
      unfold grd at hg
      split at hg
      · next hh =>
        rw [be_len] at hh
        have hs : s.length + 8 ≤ 1099511628000 := by
          cases hg
          simp [be_len] at h2
          omega
        rw [rCat_val (by rw [be_len]; omega), Option.bind_some, grd_pos (by rw [be_len]; omega)]
      · simp at hg
def z64 : A64_u32 := ⟨0, 0, 0, 0, 0, 0, 0, 0, 0, 0, 0, 0, 0, 0, 0, 0, 0, 0, 0, 0, 0, 0, 0, 0, 0, 0, 0, 0, 0, 0, 0, 0, 0, 0, 0, 0, 0, 0, 0, 0, 0, 0, 0, 0, 0, 0, 0, 0, 0, 0, 0, 0, 0, 0, 0, 0, 0, 0, 0, 0, 0, 0, 0, 0⟩
def g64 (w : A64_u32) (m : Int) : UInt32 := (at_ (A64_u32.list w) m).getD 0
theorem at64 (w : A64_u32) {m : Int} (h0 : 0 ≤ m) (h : m < 64) : at_ (A64_u32.list w) m = some (g64 w m) := by
  obtain ⟨x, hx⟩ := a64_at w h0 h
  unfold g64
  rw [hx]
  rfl
noncomputable def mixW (w : A64_u32) (t : Int) : UInt32 :=
  (((((narrowsref01_turn (g64 w (t - 2)) 17) ^^^ (narrowsref01_turn (g64 w (t - 2)) 19)) ^^^ (rshW4 (g64 w (t - 2)) 10)) + g64 w (t - 7)) + (((narrowsref01_turn (g64 w (t - 15)) 7) ^^^ (narrowsref01_turn (g64 w (t - 15)) 18)) ^^^ (rshW4 (g64 w (t - 15)) 3))) + g64 w (t - 16)
/-- A block's words. -/
noncomputable def sch (p : List UInt8) : Nat → A64_u32
  | 0 => z64
  | t + 1 => A64_u32.set (sch p t) t (if t < 16 then W4i (bn ((slc p (4 * t) (4 * t + 4)).take 7)) else mixW (sch p t) t)
theorem sch_lo {p : List UInt8} {t : Nat} (h : t < 16) : sch p (t + 1) = A64_u32.set (sch p t) t (W4i (bn ((slc p (4 * t) (4 * t + 4)).take 7))) := by rw [sch, if_pos h]
theorem sch_hi {p : List UInt8} {t : Nat} (h : ¬ t < 16) : sch p (t + 1) = A64_u32.set (sch p t) t (mixW (sch p t) t) := by rw [sch, if_neg h]
theorem toNat4 (i : Nat) : (4 * (i : Int)).toNat = 4 * i ∧ (4 * (i : Int) + 4).toNat = 4 * i + 4 := by omega
theorem schedule_val {p : List UInt8} (h : p.length = 64) : hash_schedule p = some (sch p 64) := by
  have key : Tt (hash_schedule p) (fun r => r = sch p 64) := by
    unfold hash_schedule
    refine Tt.loopW (fun k s => ∃ i : Nat, s.1 = i ∧ i ≤ 16 ∧ k = 16 - i ∧ s.2 = sch p i) (fun s => s.2 = sch p 16) 16 ⟨0, rfl, by omega, rfl, rfl⟩ ?_ ?_
    · rintro k ⟨i0, w⟩ ⟨i, rfl, hi, rfl, hw⟩
      dsimp only at *
      subst hw
      refine .ite (fun hp => ?_) fun hp => .pure ?_
      · rw [decide_eq_true_iff] at hp
        rw [wrap64 (n := 4 * (i : Int)) (by omega) (by omega), wrap64 (n := 4 * (i : Int) + 4) (by omega) (by omega)]
        refine .grd (by unfold okS; simp; omega) ?_
        rw [Int_val, Option.bind_some, at64 _ (by omega) (by omega), Option.bind_some, (toNat4 i).1, (toNat4 i).2]
        refine .pure ⟨16 - (i + 1), by omega, i + 1, ?_, by omega, rfl, ?_⟩
        · dsimp only; rw [wrap64 (by omega) (by omega)]; rfl
        · dsimp only; rw [sch_lo (by omega)]; rfl
      · rw [decide_eq_false_iff_not] at hp
        have : i = 16 := by omega
        subst this; rfl
    · rintro ⟨i0, w⟩ hw
      dsimp only at *
      subst hw
      refine Tt.loopW (fun k s => ∃ i : Nat, s.1 = i ∧ 16 ≤ i ∧ i ≤ 64 ∧ k = 64 - i ∧ s.2 = sch p i) (fun s => s.2 = sch p 64) 48 ⟨16, rfl, by omega, by omega, rfl, rfl⟩ ?_ fun s hs => .pure hs
      rintro k ⟨i0, w⟩ ⟨i, rfl, h16, hi, rfl, hw⟩
      dsimp only at *
      subst hw
      refine .ite (fun hp => ?_) fun hp => .pure ?_
      · rw [decide_eq_true_iff] at hp
        rw [wrap64 (n := (i : Int) - 2) (by omega) (by omega), wrap64 (n := (i : Int) - 7) (by omega) (by omega), wrap64 (n := (i : Int) - 15) (by omega) (by omega), wrap64 (n := (i : Int) - 16) (by omega) (by omega)]
        rw [at64 _ (by omega) (by omega), Option.bind_some, at64 _ (by omega) (by omega), Option.bind_some, at64 _ (by omega) (by omega), Option.bind_some, at64 _ (by omega) (by omega), Option.bind_some,
          threeS_val (by decide), Option.bind_some, threeS_val (by decide), Option.bind_some, at64 _ (by omega) (by omega), Option.bind_some]
        refine .pure ⟨64 - (i + 1), by omega, i + 1, ?_, by omega, by omega, rfl, ?_⟩
        · dsimp only; rw [wrap64 (by omega) (by omega)]; rfl
        · dsimp only; rw [sch_hi (by omega), turn_17, turn_19, turn_7, turn_18]; rfl
      · rw [decide_eq_false_iff_not] at hp
        have : i = 64 := by omega
        subst this; rfl
  obtain ⟨r, hr, rfl⟩ := key
  exact hr
/-- A round. -/
noncomputable def rnd (s : hash_eight) (kw : UInt32) : hash_eight :=
  ⟨(((s.a7 + ((hash_rotr s.a4 6 ^^^ hash_rotr s.a4 11) ^^^ hash_rotr s.a4 25)) + ((s.a4 &&& s.a5) ^^^ ((4294967295 ^^^ s.a4) &&& s.a6))) + kw) + (((hash_rotr s.a0 2 ^^^ hash_rotr s.a0 13) ^^^ hash_rotr s.a0 22) + (((s.a0 &&& s.a1) ^^^ (s.a0 &&& s.a2)) ^^^ (s.a1 &&& s.a2))), s.a0, s.a1, s.a2,
    s.a3 + (((s.a7 + ((hash_rotr s.a4 6 ^^^ hash_rotr s.a4 11) ^^^ hash_rotr s.a4 25)) + ((s.a4 &&& s.a5) ^^^ ((4294967295 ^^^ s.a4) &&& s.a6))) + kw), s.a4, s.a5, s.a6⟩
theorem round_val (s : hash_eight) (x : UInt32) : hash_eight_round s x = some (rnd s x) := by
  unfold hash_eight_round
  rw [three_val, Option.bind_some, three_val, Option.bind_some]
  rfl
noncomputable def rnds (k w : A64_u32) (s : hash_eight) : Nat → hash_eight
  | 0 => s
  | t + 1 => rnd (rnds k w s t) (g64 k t + g64 w t)
/-- A state behind a block. -/
noncomputable def blk8 (k : A64_u32) (s : hash_eight) (p : List UInt8) : hash_eight :=
  ⟨s.a0 + (rnds k (sch p 64) s 64).a0, s.a1 + (rnds k (sch p 64) s 64).a1, s.a2 + (rnds k (sch p 64) s 64).a2, s.a3 + (rnds k (sch p 64) s 64).a3, s.a4 + (rnds k (sch p 64) s 64).a4, s.a5 + (rnds k (sch p 64) s 64).a5, s.a6 + (rnds k (sch p 64) s 64).a6, s.a7 + (rnds k (sch p 64) s 64).a7⟩
def e8 (h : A8_u32) : hash_eight := ⟨h.a0, h.a1, h.a2, h.a3, h.a4, h.a5, h.a6, h.a7⟩
theorem rblock_val {h : A8_u32} {k : A64_u32} {p : List UInt8} (hp : p.length = 64) : ∃ r, narrowsref01_block h k p = some r ∧ e8 r = blk8 k (e8 h) p := by
  show Tt (narrowsref01_block h k p) (fun r => e8 r = blk8 k (e8 h) p)
  unfold narrowsref01_block
  refine Tt.loopW (fun j s => ∃ i : Nat, s.1 = i ∧ i ≤ 64 ∧ j = 64 - i ∧ s.2 = sch p i) (fun s => s.2 = sch p 64) 64 ⟨0, rfl, by omega, rfl, rfl⟩ ?_ ?_
  · rintro j ⟨i0, w⟩ ⟨i, rfl, hi, rfl, hw⟩
    dsimp only at *
    subst hw
    refine .ite (fun hlt => ?_) fun hlt => .pure ?_
    · rw [decide_eq_true_iff] at hlt
      refine .bind (P := fun y => y = sch p (i + 1)) (.ite (fun h16 => ?_) fun h16 => ?_) fun y hy => .pure ⟨64 - (i + 1), by omega, i + 1, by dsimp only; rw [wrap64 (by omega) (by omega)]; rfl, by omega, rfl, hy⟩
      · rw [decide_eq_true_iff] at h16
        rw [wrap64 (n := 4 * (i : Int)) (by omega) (by omega), wrap64 (n := 4 * (i : Int) + 4) (by omega) (by omega)]
        refine .grd (by unfold okS; simp; omega) ?_
        rw [rInt_val (by simp [slc]; omega), Option.bind_some, at64 _ (by omega) (by omega), Option.bind_some, (toNat4 i).1, (toNat4 i).2]
        exact .pure (by rw [sch_lo (by omega)]; rfl)
      · rw [decide_eq_false_iff_not] at h16
        rw [wrap64 (n := (i : Int) - 2) (by omega) (by omega), wrap64 (n := (i : Int) - 7) (by omega) (by omega), wrap64 (n := (i : Int) - 15) (by omega) (by omega), wrap64 (n := (i : Int) - 16) (by omega) (by omega)]
        rw [at64 _ (by omega) (by omega), Option.bind_some, at64 _ (by omega) (by omega), Option.bind_some, at64 _ (by omega) (by omega), Option.bind_some, at64 _ (by omega) (by omega), Option.bind_some, at64 _ (by omega) (by omega), Option.bind_some]
        exact .pure (by rw [sch_hi (by omega)]; rfl)
    · rw [decide_eq_false_iff_not] at hlt
      have : i = 64 := by omega
      subst this; rfl
  · rintro ⟨i0, w⟩ hw
    dsimp only at *
    subst hw
    refine Tt.loopW (fun j s => ∃ i : Nat, s.1 = i ∧ i ≤ 64 ∧ j = 64 - i ∧ (⟨s.2.2.2.2.2.2.2.2, s.2.2.2.2.2.2.2.1, s.2.2.2.2.2.2.1, s.2.2.2.2.2.1, s.2.2.2.2.1, s.2.2.2.1, s.2.2.1, s.2.1⟩ : hash_eight) = rnds k (sch p 64) (e8 h) i)
      (fun s => (⟨s.2.2.2.2.2.2.2.2, s.2.2.2.2.2.2.2.1, s.2.2.2.2.2.2.1, s.2.2.2.2.2.1, s.2.2.2.2.1, s.2.2.2.1, s.2.2.1, s.2.1⟩ : hash_eight) = rnds k (sch p 64) (e8 h) 64) 64 ⟨0, rfl, by omega, rfl, rfl⟩ ?_ ?_
    · rintro j ⟨i0, z, g, f, e, d, c, b, a⟩ ⟨i, rfl, hi, rfl, hw⟩
      dsimp only at *
      refine .ite (fun hlt => ?_) fun hlt => .pure ?_
      · rw [decide_eq_true_iff] at hlt
        rw [at64 _ (by omega) (by omega), Option.bind_some, at64 _ (by omega) (by omega), Option.bind_some]
        refine .pure ⟨64 - (i + 1), by omega, i + 1, ?_, by omega, rfl, ?_⟩
        · dsimp only; rw [wrap64 (by omega) (by omega)]; rfl
        · dsimp only
          rw [rnds, ← hw]
          unfold rnd
          dsimp only
          rw [turn_6, turn_11, turn_25, turn_2, turn_13, turn_22]
          simp only [UInt32.add_assoc]
      · rw [decide_eq_false_iff_not] at hlt
        have : i = 64 := by omega
        subst this; exact hw
    · rintro ⟨i0, z, g, f, e, d, c, b, a⟩ hw
      dsimp only at *
      refine .pure ?_
      unfold blk8
      rw [← hw]
      rfl
noncomputable def stt (p : List UInt8) : Nat → hash_eight
  | 0 => hash_begin
  | n + 1 => blk8 hash_keys (stt p n) (slc p (64 * n) (64 * n + 64))
def out8 (s : hash_eight) : List UInt8 := be (s.a0.toNat : Int) 4 ++ be (s.a1.toNat : Int) 4 ++ be (s.a2.toNat : Int) 4 ++ be (s.a3.toNat : Int) 4 ++ be (s.a4.toNat : Int) 4 ++ be (s.a5.toNat : Int) 4 ++ be (s.a6.toNat : Int) 4 ++ be (s.a7.toNat : Int) 4
theorem table_eq : narrowsref01_table = hash_keys := by unfold narrowsref01_table hash_keys; rfl
theorem bNum4 (n : Nat) : blob_Num (n : Int) 4 = some (be (n : Int) 4) := Num_val _ (k := 4) (by omega)
theorem rNum4 (n : Nat) : narrowsref01_Num (n : Int) 4 = some (be (n : Int) 4) := rNum_val _ (k := 4) (by omega)
theorem toNat64 (i : Nat) : (64 * (i : Int)).toNat = 64 * i ∧ (64 * (i : Int) + 64).toNat = 64 * i + 64 := by omega
theorem Sum_val {b : List UInt8} (hb : b.length ≤ 1099511627776) : ∃ p, hash_Pad b = some p ∧ hash_Sum b = some (out8 (stt p (p.length / 64))) ∧ narrowsref01_Sum b = some (out8 (stt p (p.length / 64))) := by
  obtain ⟨p, hp, h64, hpl⟩ := Pad_spec hb
  obtain ⟨N, hN⟩ : ∃ N, p.length = 64 * N := ⟨p.length / 64, by omega⟩
  have hNN : p.length / 64 = N := by omega
  refine ⟨p, hp, ?_, ?_⟩
  · have key : Tt (hash_Sum b) (fun r => r = out8 (stt p (p.length / 64))) := by
      unfold hash_Sum slices_Chunk_byte
      rw [hp, Option.bind_some, if_neg (by decide), Option.bind_some, hNN]
      refine Tt.loopW (fun k s => ∃ i : Nat, s.1 = 64 * (i : Int) ∧ i ≤ N ∧ k = N - i ∧ s.2 = stt p i) (fun s => s.2 = stt p N) N ⟨0, rfl, by omega, rfl, rfl⟩ ?_ ?_
      · rintro k ⟨i0, s⟩ ⟨i, rfl, hi, rfl, hs⟩
        dsimp only at *
        subst hs
        refine .ite (fun hlt => ?_) fun hlt => .pure ?_
        · rw [decide_eq_true_iff] at hlt
          have hsl : (slc p (64 * (i : Int)).toNat p.length).length = p.length - 64 * i := by simp [slc]; omega
          have hge : ¬ (((slc p (64 * (i : Int)).toNat p.length).length : Int) < 64) := by rw [hsl]; omega
          rw [if_neg hge, wrap64 (n := 64 * (i : Int) + 64) (by omega) (by omega)]
          refine .grd (by unfold okS; simp; omega) (.grd (by unfold okS; simp; omega) ?_)
          rw [(toNat64 i).1, (toNat64 i).2, schedule_val (by simp [slc]; omega), Option.bind_some]
          refine Tt.loopW (fun k s => ∃ j : Nat, s.1 = j ∧ j ≤ 64 ∧ k = 64 - j ∧ s.2 = rnds hash_keys (sch (slc p (64 * i) (64 * i + 64)) 64) (stt p i) j) (fun s => s.2 = rnds hash_keys (sch (slc p (64 * i) (64 * i + 64)) 64) (stt p i) 64) 64 ⟨0, rfl, by omega, rfl, rfl⟩ ?_ ?_
          · rintro k ⟨j0, v⟩ ⟨j, rfl, hj, rfl, hv⟩
            dsimp only at *
            subst hv
            refine .ite (fun hlt => ?_) fun hlt => .pure ?_
            · rw [decide_eq_true_iff] at hlt
              rw [at64 _ (by omega) (by omega), Option.bind_some, at64 _ (by omega) (by omega), Option.bind_some, round_val, Option.bind_some]
              exact .pure ⟨64 - (j + 1), by omega, j + 1, by dsimp only; rw [wrap64 (by omega) (by omega)]; rfl, by omega, rfl, rfl⟩
            · rw [decide_eq_false_iff_not] at hlt
              have : j = 64 := by omega
              subst this; rfl
          · rintro ⟨j0, v⟩ hv
            dsimp only at *
            subst hv
            exact .pure ⟨N - (i + 1), by omega, i + 1, by dsimp only; omega, by omega, rfl, rfl⟩
        · rw [decide_eq_false_iff_not] at hlt
          have : i = N := by omega
          subst this; rfl
      · rintro ⟨i0, s⟩ hs
        dsimp only at *
        subst hs
        simp only [bNum4, Option.bind_some, be_len, List.length_append, List.length_nil, List.nil_append]
        simp [grd, Tt, out8]
    obtain ⟨r, hr, rfl⟩ := key
    exact hr
  · have key : Tt (narrowsref01_Sum b) (fun r => r = out8 (stt p (p.length / 64))) := by
      unfold narrowsref01_Sum narrowsref01_Over
      rw [Pad_eq hb, hp, Option.bind_some, hNN, table_eq]
      refine .bind (P := fun r => r = out8 (stt p N)) ?_ fun r hr => .pure hr
      refine Tt.loopW (fun k s => ∃ i : Nat, s.1 = 64 * (i : Int) ∧ i ≤ N ∧ k = N - i ∧ e8 s.2 = stt p i) (fun s => e8 s.2 = stt p N) N ⟨0, rfl, by omega, rfl, by unfold e8 stt hash_begin; rfl⟩ ?_ ?_
      · rintro k ⟨i0, s⟩ ⟨i, rfl, hi, rfl, hs⟩
        dsimp only at *
        refine .ite (fun hlt => ?_) fun hlt => .pure ?_
        · rw [decide_eq_true_iff] at hlt
          rw [wrap64 (n := 64 * (i : Int) + 64) (by omega) (by omega)]
          refine .grd (by unfold okS; simp; omega) ?_
          rw [(toNat64 i).1, (toNat64 i).2]
          obtain ⟨r, hr, he⟩ := rblock_val (h := s) (k := hash_keys) (p := slc p (64 * i) (64 * i + 64)) (by simp [slc]; omega)
          rw [hr, Option.bind_some]
          exact .pure ⟨N - (i + 1), by omega, i + 1, by dsimp only; omega, by omega, rfl, by dsimp only; rw [he, hs]; rfl⟩
        · rw [decide_eq_false_iff_not] at hlt
          have : i = N := by omega
          subst this; exact hs
      · rintro ⟨i0, s⟩ hs
        dsimp only at *
        simp only [rNum4, Option.bind_some]
        rw [rCat_val (by simp [be_len]), Option.bind_some, rCat_val (by simp [be_len]), Option.bind_some, rCat_val (by simp [be_len]), Option.bind_some, rCat_val (by simp [be_len]), Option.bind_some,
          rCat_val (by simp [be_len]), Option.bind_some, rCat_val (by simp [be_len]), Option.bind_some, rCat_val (by simp [be_len]), Option.bind_some, rCat_val (by simp [be_len]), Option.bind_some]
        refine .pure ?_
        rw [← hs]
        simp [out8, e8]
    obtain ⟨r, hr, rfl⟩ := key
    exact hr
end Go.Sl
