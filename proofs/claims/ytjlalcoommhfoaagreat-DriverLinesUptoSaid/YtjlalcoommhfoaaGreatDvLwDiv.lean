/- A number's decimals: a division by ten of two words, of a wide number; its text. -/
import Derived.Test.YtjlalcoommhfoaaGreatSlDvg
import Derived.Test.YtjlalcoommhfoaaGreatLwTt
set_option linter.unusedVariables false
set_option linter.unusedSimpArgs false
namespace Go.Sl
theorem lsh60 (x : UInt64) : (lshU x 60).toNat = x.toNat * 1152921504606846976 % 18446744073709551616 := by
  have e : (60 : Int).toNat = 60 := rfl
  unfold lshU
  rw [e, UInt64.toNat_ofNat']
  rfl
theorem rsh4 (x : UInt64) : (rshU x 4).toNat = x.toNat / 16 := by
  have e : (4 : Int).toNat = 4 := rfl
  have h := x.toNat_lt
  unfold rshU
  rw [e, UInt64.toNat_ofNat']
  show x.toNat / 16 % 18446744073709551616 = _
  omega
theorem rsh32 (x : UInt64) : (rshU x 32).toNat = x.toNat / 4294967296 := by
  have e : (32 : Int).toNat = 32 := rfl
  have h := x.toNat_lt
  unfold rshU
  rw [e, UInt64.toNat_ofNat']
  show x.toNat / 4294967296 % 18446744073709551616 = _
  omega
theorem rsh60 (x : UInt64) : (rshU x 60).toNat = x.toNat / 1152921504606846976 := by
  have e : (60 : Int).toNat = 60 := rfl
  have h := x.toNat_lt
  unfold rshU
  rw [e, UInt64.toNat_ofNat']
  show x.toNat / 1152921504606846976 % 18446744073709551616 = _
  omega
theorem and32 (x : UInt64) : (x &&& 4294967295).toNat = x.toNat % 4294967296 := by
  rw [UInt64.toNat_and]
  exact Nat.and_two_pow_sub_one_eq_mod _ 32
theorem or60 (x y : UInt64) (hx : x.toNat < 10) (hy : y.toNat < 1152921504606846976) : (lshU x 60 ||| y).toNat = x.toNat * 1152921504606846976 + y.toNat := by
  rw [UInt64.toNat_or, lsh60, Nat.mod_eq_of_lt (by omega)]
  have := Nat.shiftLeft_add_eq_or_of_lt (i := 60) (b := y.toNat) hy x.toNat
  rw [Nat.shiftLeft_eq] at this
  exact this.symm
theorem lz10 : bits_LeadingZeros64 10 = some 60 := by kernel_rfl
theorem loop0 {σ β : Type} {f : σ → Option (Ct σ β)} {s0 s1 : σ} {k : σ → Option β} {S : β → Prop} (h : f s0 = some (.br s1)) (hk : Tt (k s1) S) : Tt (Option.bind (loopW f s0) fun o => Lo.on o k) S :=
  .loopW (fun _ s => s = s0) (fun s => s = s1) 0 rfl (fun _ s hs => by subst hs; rw [h]; exact .pure rfl) fun s hs => by subst hs; exact hk
/-- Two words by ten. -/
theorem div10 (hi lo : UInt64) (h : hi.toNat < 10) : Tt (bits_Div64 hi lo 10) (fun p => p.1.toNat * 10 + p.2.toNat = hi.toNat * 18446744073709551616 + lo.toNat ∧ p.2.toNat < 10) := by
  have hlo := lo.toNat_lt
  unfold bits_Div64
  have hle : decide ((10 : UInt64) ≤ hi) = false := decide_eq_false (by rw [UInt64.le_iff_toNat_le]; show ¬ 10 ≤ hi.toNat; omega)
  rw [if_neg (by decide), hle, if_neg (by decide)]
  refine .ite (fun c => ?_) fun c => ?_
  · have c := of_decide_eq_true c
    subst c
    refine .grd (by decide) (.grd (by decide) (.pure ⟨?_, ?_⟩))
    · rw [UInt64.toNat_div, UInt64.toNat_mod]
      show lo.toNat / 10 * 10 + lo.toNat % 10 = 0 * 18446744073709551616 + lo.toNat
      omega
    · rw [UInt64.toNat_mod]
      show lo.toNat % 10 < 10
      omega
  · rw [lz10, Option.bind_some]
    have c5 : ((Ui 60).toNat : Int) = 60 := by kernel_rfl
    have c4 : ((64 - Ui 60).toNat : Int) = 4 := by kernel_rfl
    have c1 : lshU 10 60 = 11529215046068469760 := by kernel_rfl
    have c2 : rshU 11529215046068469760 32 = 2684354560 := by kernel_rfl
    have c3 : (11529215046068469760 &&& 4294967295 : UInt64) = 0 := by kernel_rfl
    rw [c5, c4, c1, c2, c3]
    have n32 := or60 hi (rshU lo 4) h (by rw [rsh4]; omega)
    rw [rsh4] at n32
    have n1 : (rshU (lshU lo 60) 32).toNat = lo.toNat % 16 * 268435456 := by
      rw [rsh32, lsh60]; omega
    have n0 : (lshU lo 60 &&& 4294967295) = 0 := by
      apply UInt64.toNat_inj.1
      rw [and32, lsh60]
      show _ = 0
      omega
    rw [n0]
    generalize lshU hi 60 ||| rshU lo 4 = u32 at *
    generalize rshU (lshU lo 60) 32 = u1 at *
    have q1 : (u32 / 2684354560).toNat = u32.toNat / 2684354560 := UInt64.toNat_div ..
    generalize hq1 : u32 / 2684354560 = v1 at *
    refine .grd (by decide) (.bind (P := fun y => y = v1) (loop0 (s1 := (u32 - v1 * 2684354560, v1)) ?_ (.pure rfl)) fun y hy => ?_)
    · have e1 : decide (v1 ≥ 4294967296) = false := decide_eq_false (by rw [ge_iff_le, UInt64.le_iff_toNat_le, q1]; show ¬ 4294967296 ≤ _; omega)
      have e2 : decide (v1 * 0 > (4294967296 * (u32 - v1 * 2684354560)) + u1) = false := decide_eq_false (by
        rw [gt_iff_lt, UInt64.lt_iff_toNat_lt, UInt64.mul_zero]; show ¬ _ < 0; omega)
      dsimp only
      rw [e1, e2]
      rfl
    subst hy
    have n21 : (u32 * 4294967296 + u1 - y * 11529215046068469760).toNat = u32.toNat % 2684354560 * 4294967296 + u1.toNat := by
      rw [UInt64.toNat_sub, UInt64.toNat_add, UInt64.toNat_mul, UInt64.toNat_mul, q1]
      show (2 ^ 64 - u32.toNat / 2684354560 * 11529215046068469760 % 2 ^ 64 + (u32.toNat * 4294967296 % 2 ^ 64 + u1.toNat) % 2 ^ 64) % 2 ^ 64 = _
      omega
    generalize u32 * 4294967296 + u1 - y * 11529215046068469760 = u21 at *
    have q0 : (u21 / 2684354560).toNat = u21.toNat / 2684354560 := UInt64.toNat_div ..
    generalize hq0 : u21 / 2684354560 = v0 at *
    refine .grd (by decide) (.bind (P := fun z => z = v0) (loop0 (s1 := (u21 - v0 * 2684354560, v0)) ?_ (.pure rfl)) fun z hz => ?_)
    · have e1 : decide (v0 ≥ 4294967296) = false := decide_eq_false (by rw [ge_iff_le, UInt64.le_iff_toNat_le, q0]; show ¬ 4294967296 ≤ _; omega)
      have e2 : decide (v0 * 0 > (4294967296 * (u21 - v0 * 2684354560)) + 0) = false := decide_eq_false (by
        rw [gt_iff_lt, UInt64.lt_iff_toNat_lt, UInt64.mul_zero]; show ¬ _ < 0; omega)
      dsimp only
      rw [e1, e2]
      rfl
    subst hz
    have nr : (rshU (u21 * 4294967296 + 0 - z * 11529215046068469760) 60).toNat = u21.toNat % 2684354560 / 268435456 := by
      rw [rsh60, UInt64.toNat_sub, UInt64.toNat_add, UInt64.toNat_mul, UInt64.toNat_mul, q0]
      show (2 ^ 64 - u21.toNat / 2684354560 * 11529215046068469760 % 2 ^ 64 + (u21.toNat * 4294967296 % 2 ^ 64 + 0) % 2 ^ 64) % 2 ^ 64 / _ = _
      omega
    have nq : (y * 4294967296 + z).toNat = u32.toNat / 2684354560 * 4294967296 + u21.toNat / 2684354560 := by
      rw [UInt64.toNat_add, UInt64.toNat_mul, q1, q0]
      show (u32.toNat / 2684354560 * 4294967296 % 2 ^ 64 + u21.toNat / 2684354560) % 2 ^ 64 = _
      omega
    refine .pure ⟨?_, ?_⟩
    · show (y * 4294967296 + z).toNat * 10 + (rshU (u21 * 4294967296 + 0 - z * 11529215046068469760) 60).toNat = _
      rw [nr, nq]
      omega
    · show (rshU (u21 * 4294967296 + 0 - z * 11529215046068469760) 60).toNat < 10
      rw [nr]
      omega
def wv (a : api_Wide) : Nat := a.a0.toNat + a.a1.toNat * 18446744073709551616 + a.a2.toNat * 340282366920938463463374607431768211456 + a.a3.toNat * 6277101735386680763835789423207666416102355444464034512896
/-- A wide number by ten. -/
theorem wdiv10 (a : api_Wide) : Tt (wide_Div a 10) (fun r => wv r.1 * 10 + r.2.1.toNat = wv a ∧ r.2.1.toNat < 10) := by
  unfold wide_Div
  rw [if_neg (by decide)]
  refine .bind (div10 0 a.a3 (by decide)) fun p3 h3 => .bind (div10 p3.2 a.a2 h3.2) fun p2 h2 => .bind (div10 p2.2 a.a1 h2.2) fun p1 h1 => .bind (div10 p1.2 a.a0 h1.2) fun p0 h0 => .pure ⟨?_, h0.2⟩
  obtain ⟨e3, _⟩ := h3
  obtain ⟨e2, _⟩ := h2
  obtain ⟨e1, _⟩ := h1
  obtain ⟨e0, _⟩ := h0
  have z : (0 : UInt64).toNat = 0 := rfl
  rw [z] at e3
  unfold wv
  dsimp only
  omega
theorem wv_zero {a : api_Wide} (h : wv a = 0) : a = ⟨0, 0, 0, 0⟩ := by
  unfold wv at h
  obtain ⟨a0, a1, a2, a3⟩ := a
  dsimp only at h
  have z : ∀ x : UInt64, x.toNat = 0 → x = 0 := fun x hx => UInt64.toNat_inj.1 (by simpa using hx)
  rw [z a0 (by omega), z a1 (by omega), z a2 (by omega), z a3 (by omega)]
/-- The text of a number ends, and is short. -/
theorem put_ok (a : api_Wide) (ha : wv a < 10 ^ 40) : Tt (text_Put a) (fun t => t.size ≤ 41) := by
  unfold text_Put
  refine .loopW (fun j s => wv s.2 < 10 ^ j ∧ s.1.size + j ≤ 40) (fun _ => False) 40 ⟨ha, Nat.le_refl _⟩ (fun j s hI => ?_) fun s hs => hs.elim
  obtain ⟨hv, hs⟩ := hI
  refine .bind (wdiv10 s.2) fun r hr => ?_
  obtain ⟨e, hd⟩ := hr
  have p1 : (r.2.1 + 1).toNat = r.2.1.toNat + 1 := by
    rw [UInt64.toNat_add]; show (r.2.1.toNat + 1) % 2 ^ 64 = _; omega
  have hsz : ((⟨#[48, 49, 50, 51, 52, 53, 54, 55, 56, 57, 97, 98, 99, 100, 101, 102]⟩ : ByteArray).extract r.2.1.toNat (r.2.1 + 1).toNat).size = 1 := by
    rw [ByteArray.size_extract, p1]
    show min _ 16 - _ = 1
    omega
  refine .grd ?_ (.grd (by rw [hsz]; omega) (.ite (fun c => ?_) fun c => ?_))
  · unfold okS
    rw [p1]
    refine ⟨by simp, by simp; omega, ?_, by simp, by simp⟩
    show ((r.2.1.toNat + 1 : Nat) : Int) ≤ 16
    omega
  · refine .pure ?_
    show ByteArray.size (_ ++ _) ≤ 41
    rw [ByteArray.size_append, hsz]
    omega
  · have c := of_decide_eq_false c
    have hne : wv r.1 ≠ 0 := fun h => c (wv_zero h)
    cases j with
    | zero => omega
    | succ j =>
      refine .pure ⟨j, by omega, ?_, ?_⟩
      · show wv r.1 < 10 ^ j
        have : 10 ^ (j + 1) = 10 * 10 ^ j := by rw [Nat.pow_succ, Nat.mul_comm]
        omega
      · show ByteArray.size (_ ++ _) + j ≤ 40
        rw [ByteArray.size_append, hsz]
        omega
end Go.Sl
