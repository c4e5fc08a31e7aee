/- Numbers as octets, and back. -/
import Derived.Test.YtjlalcoommhfoaaGreatSlDvg
import Derived.Test.YtjlalcoommhfoaaGreatLwTt
set_option linter.unusedVariables false
set_option linter.unusedSimpArgs false
namespace Go.Sl
theorem borK_nat {m n : Nat} (hm : m < 4611686018427387904) (hn : n < 4611686018427387904) : borK .i64 (m : Int) (n : Int) = ((m ||| n : Nat) : Int) := by
  have h := Nat.or_lt_two_pow (n := 62) (x := m) (y := n) (by simpa using hm) (by simpa using hn)
  unfold borK
  have hb : IntKind.i64.bits = 64 := rfl
  rw [hb]
  have e1 : BitVec.ofInt 64 (m : Int) = BitVec.ofNat 64 m := by simp
  have e2 : BitVec.ofInt 64 (n : Int) = BitVec.ofNat 64 n := by simp
  rw [e1, e2, BitVec.toNat_or, BitVec.toNat_ofNat, BitVec.toNat_ofNat, Nat.mod_eq_of_lt (by omega), Nat.mod_eq_of_lt (by omega)]
  exact wrap64 (by omega) (by simp at h; omega)
theorem shlK_nat {m : Nat} (h : m < 18014398509481984) : shlK .i64 (m : Int) 8 = ((m * 256 : Nat) : Int) := by
  unfold shlK
  have : min (8 : Int).toNat IntKind.i64.bits = 8 := rfl
  rw [this, wrap64 (by omega) (by omega)]
  omega
theorem shrK_fdiv {n : Int} : shrK .i64 n 8 = n / 256 := by
  unfold shrK
  have : min (8 : Int).toNat IntKind.i64.bits = 8 := rfl
  rw [this, Int.fdiv_eq_ediv_of_nonneg _ (by decide)]
  rfl
theorem or_add {a b : Nat} (h : b < 256) : a * 256 ||| b = a * 256 + b := by
  have := Nat.two_pow_add_eq_or_of_lt (i := 8) (b := b) (by simpa using h) a
  rw [Nat.mul_comm]
  simpa using this.symm
theorem b8 (c : UInt8) : c.toNat < 256 := c.toNat_lt
/-- The number of octets. -/
def bn (l : List UInt8) : Nat := l.foldl (fun a c => a * 256 + c.toNat) 0
theorem bn_snoc (l : List UInt8) (c : UInt8) : bn (l ++ [c]) = bn l * 256 + c.toNat := by simp [bn]
theorem snoc_ind {P : List UInt8 → Prop} (h0 : P []) (h1 : ∀ l c, P l → P (l ++ [c])) : ∀ l, P l := by
  have key : ∀ n (l : List UInt8), l.length = n → P l := by
    intro n
    induction n with
    | zero => intro l hl; rw [List.length_eq_zero_iff.1 hl]; exact h0
    | succ n ih =>
      intro l hl
      have hne : l ≠ [] := fun e => by rw [e] at hl; simp at hl
      rw [← List.dropLast_concat_getLast hne]
      exact h1 _ _ (ih _ (by simp [hl]))
  exact fun l => key _ l rfl
theorem bn_lt : ∀ l : List UInt8, bn l < 256 ^ l.length := by
  apply snoc_ind
  · decide
  · intro l c ih
    rw [bn_snoc, List.length_append, List.length_singleton, Nat.pow_succ]
    have := b8 c
    omega
theorem bn_lt7 {l : List UInt8} (h : l.length ≤ 6) : bn l < 281474976710656 := by
  have h1 := bn_lt l
  have h2 : 256 ^ l.length ≤ 256 ^ 6 := Nat.pow_le_pow_right (by decide) h
  have : (256 : Nat) ^ 6 = 281474976710656 := by decide
  omega
theorem Int_val (b : List UInt8) : blob_Int b = some (bn (b.take 7) : Int) := by
  unfold blob_Int
  have hk : okS b.length none (some (if 7 < (b.length : Int) then 7 else (b.length : Int))) none := by
    unfold okS; simp; split <;> omega
  rw [grd_pos hk]
  have hs : slc b 0 (if 7 < (b.length : Int) then 7 else (b.length : Int)).toNat = b.take 7 := by
    unfold slc
    rw [List.drop_zero]
    split
    · rfl
    · have : b.length ≤ 7 := by omega
      simp [List.take_of_length_le this]
  rw [hs]
  have h7 : (b.take 7).length ≤ 7 := by simp; omega
  generalize b.take 7 = l at h7 ⊢
  have key : Tt (Option.bind (loopR (fun (i5 : Nat) (e8 : UInt8) (s6 : Int) => (some (.nx (borK .i64 (shlK .i64 s6 8) (e8.toNat : Int))) : Option (Ct Int Int))) 0 l 0) fun o9 => Lo.on o9 fun (s6 : Int) => some s6) (fun r => r = (bn l : Int)) := by
    refine Tt.loopR (fun i s => s = (bn (l.take i) : Int)) rfl ?_ ?_
    · rintro i x s hx rfl
      have hi : i < l.length := (List.getElem?_eq_some_iff.1 hx).1
      have hl : (l.take i).length ≤ 6 := by simp; omega
      have hb := bn_lt7 hl
      have hx8 := b8 x
      refine .pure ?_
      show _ = _
      rw [shlK_nat (by omega), borK_nat (by omega) (by omega), or_add hx8, List.take_add_one, hx]
      simp only [Option.toList_some, bn_snoc]
    · rintro s rfl
      refine .pure ?_
      rw [List.take_length]
  obtain ⟨r, h1, h2⟩ := key
  rw [h1, h2]
/-- The octets of a number. -/
def be (n : Int) : Nat → List UInt8
  | 0 => []
  | k + 1 => be (n / 256) k ++ [B8i n]
theorem be_len (k : Nat) : ∀ n, (be n k).length = k := by
  induction k with
  | zero => intro n; rfl
  | succ k ih => intro n; simp [be, ih]
theorem set_rep (j : Nat) (v : UInt8) (t : List UInt8) : (List.replicate (j + 1) 0 ++ t).set j v = List.replicate j 0 ++ v :: t := by
  rw [List.replicate_succ', List.append_assoc, List.set_append_right _ _ (by simp)]
  simp
theorem Num_val (n : Int) {k : Nat} (hk : k ≤ 8) : blob_Num n (k : Int) = some (be n k) := by
  unfold blob_Num
  have hm : (if 8 < (if (0 : Int) > (k : Int) then 0 else (k : Int)) then 8 else (if (0 : Int) > (k : Int) then 0 else (k : Int))) = (k : Int) := by
    rw [if_neg (show ¬ (0 : Int) > (k : Int) by omega), if_neg (by omega)]
  rw [hm, grd_pos (by omega)]
  have hl : (List.replicate (k : Int).toNat (0 : UInt8)).length = k := by simp
  have hr : List.replicate (k : Int).toNat (0 : UInt8) = List.replicate k 0 := by simp
  rw [hl, wrap64 (by omega) (by omega), hr]
  have key : Tt (Option.bind (loopW (fun (s14 : Int × (List UInt8) × (List UInt8) × Int) => (if (decide (s14.1 ≥ 0)) = true then (Option.bind (at_ s14.2.1 s14.1) fun (x27 : UInt8) => Option.bind (at_ s14.2.1 s14.1) fun (x36 : UInt8) => some (.nx ((IntKind.i64.wrap (s14.1 - 1), (s14.2.1.set (s14.1).toNat (B8i s14.2.2.2 : UInt8)), (s14.2.1.set (s14.1).toNat (B8i s14.2.2.2 : UInt8)), shrK .i64 s14.2.2.2 8)))) else (some (.br (s14.1, s14.2.1, s14.2.1, s14.2.2.2))) : Option (Ct (Int × (List UInt8) × (List UInt8) × Int) (List UInt8)))) ((k : Int) - 1, List.replicate k 0, List.replicate k 0, n)) fun o16 => Lo.on o16 fun (s14 : Int × (List UInt8) × (List UInt8) × Int) => some s14.2.1) (fun r => r = be n k) := by
    refine Tt.loopW (fun j s => s.1 = (j : Int) - 1 ∧ j ≤ k ∧ ∃ t, s.2.1 = List.replicate j 0 ++ t ∧ be n k = be s.2.2.2 j ++ t) (fun s => s.2.1 = be n k) k ⟨rfl, Nat.le_refl _, [], by simp, by simp⟩ ?_ ?_
    · rintro j ⟨i, l, l2, m⟩ ⟨rfl, hj, t, rfl, hb⟩
      dsimp only
      cases j with
      | zero =>
        refine .ite (fun h => ?_) (fun _ => ?_)
        · simp at h
        · exact .pure (by simpa [CtP, be] using hb.symm)
      | succ j =>
        refine .ite (fun _ => ?_) (fun h => ?_)
        · have hx : Tt (at_ (List.replicate (j + 1) (0 : UInt8) ++ t) ((j + 1 : Nat) - 1 : Int)) (fun _ => True) := .at_ (by omega) (by simp; omega) fun _ _ => trivial
          refine .bind hx fun x _ => ?_
          refine .bind hx fun y _ => ?_
          refine .pure ?_
          have e : (((j + 1 : Nat) : Int) - 1).toNat = j := by omega
          simp only [CtP]
          refine ⟨j, by omega, ?_, by omega, B8i m :: t, ?_, ?_⟩
          · rw [wrap64 (by omega) (by omega)]; omega
          · rw [e, set_rep]
          · rw [shrK_fdiv, hb]; simp [be]
        · rw [decide_eq_false_iff_not] at h; omega
    · intro s hs
      exact .pure hs
  obtain ⟨r, h1, h2⟩ := key
  rw [h1, h2]
theorem B8i_nat (n : Nat) : (B8i (n : Int)).toNat = n % 256 := by
  unfold B8i
  have : ((n : Int) % 256).toNat = n % 256 := by omega
  rw [this]
  simp
theorem bn_be (k : Nat) : ∀ n : Nat, n < 256 ^ k → bn (be (n : Int) k) = n := by
  induction k with
  | zero => intro n h; simp at h; subst h; rfl
  | succ k ih =>
    intro n h
    have e : ((n : Int) / 256) = ((n / 256 : Nat) : Int) := by omega
    rw [be, bn_snoc, e, ih (n / 256) (by rw [Nat.pow_succ] at h; omega), B8i_nat]
    omega
theorem be_bn : ∀ l : List UInt8, be (bn l : Int) l.length = l := by
  apply snoc_ind
  · rfl
  · intro l c ih
    have hc := b8 c
    rw [List.length_append, List.length_singleton, be, bn_snoc]
    have e : (((bn l * 256 + c.toNat : Nat) : Int) / 256) = ((bn l : Nat) : Int) := by omega
    rw [e, ih]
    congr 2
    apply UInt8.toNat_inj.1
    rw [B8i_nat]
    omega
end Go.Sl
