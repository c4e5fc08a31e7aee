/- The hash and the fields come to something, for texts that are not endless. -/
import Derived.Test.YtknpgjcnhneaaaaAuLwCat
set_option linter.unusedVariables false
set_option linter.unusedSimpArgs false
namespace Go.Sl
theorem at_some {α : Type} {xs : List α} {m : Int} (h0 : 0 ≤ m) (h : m < xs.length) : ∃ x, at_ xs m = some x := ⟨_, at_ok h0 h⟩
section
variable {σ β γ : Type}
/-- A loop that counts. -/
theorem loopW_cnt {f : Int × σ → Option (Ct (Int × σ) β)} {n : Nat} {i0 : Nat} (step : ∀ (i : Nat) (s : σ), i0 ≤ i → i < n → ∃ s', f ((i : Int), s) = some (.nx (((i + 1 : Nat) : Int), s')))
    (stop : ∀ s : σ, f ((n : Int), s) = some (.br ((n : Int), s))) (h : i0 ≤ n) (s : σ) : ∃ s', loopW f ((i0 : Int), s) = some (.dn ((n : Int), s')) := by
  obtain ⟨k, rfl⟩ : ∃ k, n = i0 + k := ⟨n - i0, by omega⟩
  clear h
  induction k generalizing i0 s with
  | zero =>
    rw [loopW_step]
    have := stop s
    simp only [Nat.add_zero] at this
    rw [this]
    exact ⟨s, rfl⟩
  | succ k ih =>
    obtain ⟨s', hs⟩ := step i0 s (Nat.le_refl _) (by omega)
    rw [loopW_step, hs]
    have e : i0 + (k + 1) = (i0 + 1) + k := by omega
    rw [e] at step stop ⊢
    exact ih s' (fun i s h1 h2 => step i s (by omega) h2) stop
theorem loopW_cntb {f : Int × σ → Option (Ct (Int × σ) β)} {g : Lo (Int × σ) β → Option γ} {G : γ → Prop} (n i0 : Nat) {m : Int} {s : σ} (hm : m = i0) (h : i0 ≤ n) (step : ∀ (i : Nat) (s : σ), i0 ≤ i → i < n → ∃ s', f ((i : Int), s) = some (.nx (((i + 1 : Nat) : Int), s')))
    (stop : ∀ s : σ, f ((n : Int), s) = some (.br ((n : Int), s))) (fin : ∀ s', ∃ r, g (.dn ((n : Int), s')) = some r ∧ G r) : ∃ r, Option.bind (loopW f (m, s)) g = some r ∧ G r := by
  subst hm
  obtain ⟨s', hs⟩ := loopW_cnt step stop h s
  rw [hs]
  exact fin s'
end
theorem wr1 {i : Nat} (h : i < 1099511627776) : IntKind.i64.wrap ((i : Int) + 1) = ((i + 1 : Nat) : Int) := by
  rw [wrap64 (by omega) (by omega)]; rfl
theorem Num_spec (n : Int) (k : Nat) (hk : k ≤ 8) : ∃ r, blob_Num n (k : Int) = some r ∧ r.length = k := ⟨_, Num_val n hk, be_len k n⟩
theorem Grow_spec {n : Int} (h0 : 0 ≤ n) (h : n ≤ 1099511627776) : slices_Grow_byte_nil n = some [] := Grow_val h0 h
theorem Cat1_spec {a : List UInt8} (h : a.length ≤ 1099511627776) : blob_Cat_n1 a = some a := Cat1_val h
theorem Cat2_spec {a b : List UInt8} (h : a.length + b.length ≤ 1099511627776) : blob_Cat_n2 a b = some (a ++ b) := by
  unfold blob_Cat_n2 slices_Concat_byte_n2
  rw [wrap64 (n := 0 + (a.length : Int)) (by omega) (by omega), if_neg (by rw [decide_eq_true_iff]; omega), wrap64 (by omega) (by omega), if_neg (by rw [decide_eq_true_iff]; omega), Grow_spec (by omega) (by omega), Option.bind_some, grd_pos (by simp; omega), grd_pos (by simp; omega)]
  rfl
def Okf (o : field_Out) : Prop := o.made = true ∧ o.b.length ≤ 8192
theorem put_spec {o : field_Out} {b : List UInt8} {e : Int} (ho : Okf o) (hb : b.length ≤ 1099511627776) : ∃ o', field_Out_put o b e = some o' ∧ Okf o' := by
  unfold field_Out_put thn
  obtain ⟨h1, h2⟩ := ho
  rw [h1]
  simp only [Bool.not_true, Bool.false_eq_true, if_false]
  split
  · exact ⟨_, rfl, h1, h2⟩
  · split
    · exact ⟨_, rfl, by simp, h2⟩
    · rw [wrap64 (by omega) (by omega)]
      split
      · exact ⟨_, rfl, by simp, h2⟩
      · rename_i h
        rw [decide_eq_true_iff] at h
        rw [grd_pos (by omega)]
        exact ⟨_, rfl, by simp, by simp; omega⟩
theorem Text_spec {o : field_Out} {s : ByteArray} (ho : Okf o) (hs : s.size ≤ 1048576) : ∃ o', field_Out_Text o s = some o' ∧ Okf o' := by
  unfold field_Out_Text thn
  dsimp only
  obtain ⟨r, hr, hl⟩ := Num_spec (s.size : Int) 2 (by omega)
  have hl2 : s.data.toList.length = s.size := by simp <;> rfl
  obtain ⟨o', h1, h2⟩ := put_spec (o := o) (b := r ++ s.data.toList) (e := if (decide (((s.size : Int)) > 1024)) = true then 5 else 0) ho (by rw [List.length_append, hl, hl2]; omega)
  have hr' : blob_Num (s.size : Int) 2 = some r := hr
  rw [hr', Option.bind_some, grd_pos (by omega), Cat2_spec (by rw [hl, hl2]; omega), Option.bind_some, h1]
  exact ⟨_, rfl, h2⟩
theorem NumO_spec {o : field_Out} {n : Int} (ho : Okf o) : ∃ o', field_Out_Num o n = some o' ∧ Okf o' := by
  unfold field_Out_Num thn
  dsimp only
  obtain ⟨r, hr, hl⟩ := Num_spec n 6 (by omega)
  have hr' : blob_Num n 6 = some r := hr
  obtain ⟨o', h1, h2⟩ := put_spec (o := o) (b := r) (e := if (if (decide (n < 0)) = true then true else (decide (n > 1099511627776))) = true then 4 else 0) ho (by omega)
  rw [hr', Option.bind_some, h1]
  exact ⟨_, rfl, h2⟩
theorem Put_spec {o : field_Out} {i : api_Inv} (ho : Okf o) (h1 : i.Root.size ≤ 1048576) (h2 : i.Id.size ≤ 1048576) : ∃ o', deal_Put o i = some o' ∧ Okf o' := by
  unfold deal_Put
  obtain ⟨o1, e1, k1⟩ := Text_spec (s := ⟨#[105, 110, 118]⟩) ho (by decide)
  obtain ⟨o2, e2, k2⟩ := NumO_spec (n := i.User) k1
  obtain ⟨o3, e3, k3⟩ := Text_spec (s := i.Root) k2 h1
  obtain ⟨o4, e4, k4⟩ := NumO_spec (n := i.Router) k3
  obtain ⟨o5, e5, k5⟩ := NumO_spec (n := i.Send) k4
  obtain ⟨o6, e6, k6⟩ := NumO_spec (n := i.Recv) k5
  obtain ⟨o7, e7, k7⟩ := NumO_spec (n := i.To) k6
  obtain ⟨o8, e8, k8⟩ := Text_spec (s := i.Id) k7 h2
  simp only [e1, e2, e3, e4, e5, e6, e7, e8, Option.bind_some]
  exact ⟨_, rfl, k8⟩
theorem Done_spec {o : field_Out} (ho : Okf o) : ∃ r, field_Out_Done o = some r ∧ r.1.length ≤ 8192 := by
  unfold field_Out_Done
  rw [ho.1, if_neg (by decide)]
  have := ho.2
  split
  · exact ⟨_, rfl, by simp⟩
  · rw [Cat1_spec (by omega)]
    exact ⟨_, rfl, ho.2⟩
theorem Pad_spec {b : List UInt8} (hb : b.length ≤ 1099511627776) : ∃ r, hash_Pad b = some r ∧ r.length % 64 = 0 ∧ r.length ≤ 1099511628000 := by
  unfold hash_Pad slices_Clone_byte
  rw [grd_pos (by simp; omega), Option.bind_some, grd_pos (by simp; omega)]
  refine loopW_bind (fun k s => k = (120 - s.length % 64) % 64 ∧ s.length + k ≤ b.length + 65) (fun o => match o with | .dn s => s.length % 64 = 56 ∧ s.length ≤ b.length + 65 | .rt r => False) _ ⟨rfl, ?_⟩ ?_ ?_
  · simp; omega
  · rintro k s ⟨rfl, hk⟩
    have ht : Int.tmod (s.length : Int) 64 = ((s.length % 64 : Nat) : Int) := tmod_nat _ 64
    rw [ht]
    by_cases h : s.length % 64 = 56
    · rw [if_neg (by rw [h]; decide)]
      exact ⟨_, rfl, h, by omega⟩
    · rw [if_pos (decide_eq_true (by omega)), grd_pos (by simp; omega)]
      refine ⟨_, rfl, _, ?_, rfl, ?_⟩
      · simp; omega
      · simp; omega
  · rintro (s | r) hq
    · obtain ⟨h1, h2⟩ := hq
      obtain ⟨r, hr, hl⟩ := Num_spec (IntKind.i64.wrap (8 * (b.length : Int))) 8 (by omega)
      have hr' : blob_Num (IntKind.i64.wrap (8 * (b.length : Int))) 8 = some r := hr
      rw [Lo.on, hr', Option.bind_some, grd_pos (by omega)]
      exact ⟨_, rfl, by simp; omega, by simp; omega⟩
    · exact hq.elim
theorem IntB_spec {b : List UInt8} : ∃ r, blob_Int b = some r := ⟨_, Int_val b⟩
theorem three_spec {x : UInt32} {a b c : Int} {z : Bool} (h : 0 ≤ c) : ∃ r, hash_three x a b c z = some r := by
  unfold hash_three
  split
  · rw [grd_pos h]; exact ⟨_, rfl⟩
  · exact ⟨_, rfl⟩
theorem a64_at (s : A64_u32) {m : Int} (h0 : 0 ≤ m) (h : m < 64) : ∃ x, at_ (A64_u32.list s) m = some x := at_some h0 (by simpa [A64_u32.list] using h)
theorem sched_spec {b : List UInt8} (h : b.length = 64) : ∃ r, hash_schedule b = some r := by
  have key : ∃ r, hash_schedule b = some r ∧ True := by
    unfold hash_schedule
    refine loopW_cntb 16 0 rfl (by omega) ?_ ?_ ?_
    · intro i s _ hlt
      dsimp only
      rw [if_pos (decide_eq_true (by omega)), wrap64 (n := 4 * (i : Int)) (by omega) (by omega), wrap64 (n := 4 * (i : Int) + 4) (by omega) (by omega)]
      have hk : okS b.length (some (4 * (i : Int))) (some (4 * (i : Int) + 4)) none := by
        unfold okS; simp; omega
      obtain ⟨r, hr⟩ := IntB_spec (b := slc b (4 * (i : Int)).toNat (4 * (i : Int) + 4).toNat)
      obtain ⟨x, hx⟩ := a64_at s (m := (i : Int)) (by omega) (by omega)
      rw [grd_pos hk, hr, Option.bind_some, hx, Option.bind_some, wr1 (by omega)]
      exact ⟨_, rfl⟩
    · intro s
      dsimp only
      rw [if_neg (by simp)]
    · intro s
      rw [Lo.on]
      refine loopW_cntb 64 16 rfl (by omega) ?_ ?_ ?_
      · intro i s _ hlt
        dsimp only
        rw [if_pos (decide_eq_true (by omega))]
        obtain ⟨x1, h1⟩ := a64_at s (m := (i : Int) - 2) (by omega) (by omega)
        obtain ⟨x2, h2⟩ := a64_at s (m := (i : Int) - 7) (by omega) (by omega)
        obtain ⟨x3, h3⟩ := a64_at s (m := (i : Int) - 15) (by omega) (by omega)
        obtain ⟨x4, h4⟩ := a64_at s (m := (i : Int) - 16) (by omega) (by omega)
        obtain ⟨x5, h5⟩ := a64_at s (m := (i : Int)) (by omega) (by omega)
        obtain ⟨r1, e1⟩ := three_spec (x := x1) (a := 17) (b := 19) (c := 10) (z := true) (by decide)
        obtain ⟨r2, e2⟩ := three_spec (x := x3) (a := 7) (b := 18) (c := 3) (z := true) (by decide)
        rw [wrap64 (n := (i : Int) - 2) (by omega) (by omega), wrap64 (n := (i : Int) - 7) (by omega) (by omega), wrap64 (n := (i : Int) - 15) (by omega) (by omega), wrap64 (n := (i : Int) - 16) (by omega) (by omega), wr1 (by omega),
          h1, Option.bind_some, h2, Option.bind_some, h3, Option.bind_some, h4, Option.bind_some, e1, Option.bind_some, e2, Option.bind_some, h5, Option.bind_some]
        exact ⟨_, rfl⟩
      · intro s
        dsimp only
        rw [if_neg (by simp)]
      · intro s
        exact ⟨_, rfl, trivial⟩
  obtain ⟨r, hr, _⟩ := key
  exact ⟨r, hr⟩
theorem round_spec (s : hash_eight) (x : UInt32) : ∃ r, hash_eight_round s x = some r := by
  unfold hash_eight_round
  obtain ⟨r1, e1⟩ := three_spec (x := s.a4) (a := 6) (b := 11) (c := 25) (z := false) (by decide)
  obtain ⟨r2, e2⟩ := three_spec (x := s.a0) (a := 2) (b := 13) (c := 22) (z := false) (by decide)
  rw [e1, Option.bind_some, e2, Option.bind_some]
  exact ⟨_, rfl⟩
theorem num4 (x : UInt32) : ∃ r, blob_Num (x.toNat : Int) 4 = some r ∧ r.length = 4 := Num_spec _ 4 (by omega)
theorem Sum_spec {b : List UInt8} (hb : b.length ≤ 1099511627776) : ∃ r, hash_Sum b = some r ∧ r.length = 32 := by
  unfold hash_Sum slices_Chunk_byte
  obtain ⟨p, hp, hp1, hp2⟩ := Pad_spec hb
  rw [hp, Option.bind_some, if_neg (by decide), Option.bind_some]
  obtain ⟨N, hN⟩ : ∃ N, p.length = 64 * N := ⟨p.length / 64, by omega⟩
  refine loopW_bind (fun k s => ∃ i : Nat, s.1 = ((64 * i : Nat) : Int) ∧ i ≤ N ∧ k = N - i) (fun o => match o with | .dn s => True | .rt r => False) N ⟨0, rfl, by omega, by omega⟩ ?_ ?_
  · rintro k ⟨i0, s⟩ ⟨i, rfl, hi, rfl⟩
    dsimp only
    by_cases hlt : i < N
    · rw [if_pos (decide_eq_true (by omega))]
      have hsl : (slc p (((64 * i : Nat) : Int)).toNat p.length).length = p.length - 64 * i := by simp [slc]; omega
      have hge : ¬ (((slc p (((64 * i : Nat) : Int)).toNat p.length).length : Int) < 64) := by rw [hsl]; omega
      rw [if_neg hge, wrap64 (n := ((64 * i : Nat) : Int) + 64) (by omega) (by omega)]
      have hk1 : okS p.length (some ((64 * i : Nat) : Int)) none none := by unfold okS; simp; omega
      have hk2 : okS p.length (some ((64 * i : Nat) : Int)) (some (((64 * i : Nat) : Int) + 64)) (some (((64 * i : Nat) : Int) + 64)) := by unfold okS; simp; omega
      obtain ⟨w, hw⟩ := sched_spec (b := slc p (((64 * i : Nat) : Int)).toNat (((64 * i : Nat) : Int) + 64).toNat) (by simp [slc]; omega)
      rw [grd_pos hk1, grd_pos hk2, hw, Option.bind_some]
      refine loopW_bind (fun k s => ∃ j : Nat, s.1 = j ∧ j ≤ 64 ∧ k = 64 - j) (fun o => match o with | .dn s => True | .rt r => False) 64 ⟨0, rfl, by omega, by omega⟩ ?_ ?_
      · rintro k ⟨j0, s⟩ ⟨j, rfl, hj, rfl⟩
        dsimp only
        by_cases hjl : j < 64
        · rw [if_pos (decide_eq_true (by omega))]
          obtain ⟨x1, h1⟩ := a64_at w (m := (j : Int)) (by omega) (by omega)
          obtain ⟨x2, h2⟩ := a64_at hash_keys (m := (j : Int)) (by omega) (by omega)
          obtain ⟨r, hr⟩ := round_spec s (x2 + x1)
          rw [h1, Option.bind_some, h2, Option.bind_some, hr, Option.bind_some, wrap64 (n := (j : Int) + 1) (by omega) (by omega)]
          exact ⟨_, rfl, 64 - (j + 1), by omega, j + 1, by simp, by omega, rfl⟩
        · rw [if_neg (by rw [decide_eq_true_iff]; omega)]
          exact ⟨_, rfl, trivial⟩
      · rintro (s | r) hq
        · rw [Lo.on]
          exact ⟨_, rfl, N - (i + 1), by omega, i + 1, by dsimp only; omega, by omega, rfl⟩
        · exact hq.elim
    · rw [if_neg (by rw [decide_eq_true_iff]; omega)]
      exact ⟨_, rfl, trivial⟩
  · rintro (s | r) hq
    · rw [Lo.on]
      obtain ⟨r0, e0, l0⟩ := num4 s.2.a0
      obtain ⟨r1, e1, l1⟩ := num4 s.2.a1
      obtain ⟨r2, e2, l2⟩ := num4 s.2.a2
      obtain ⟨r3, e3, l3⟩ := num4 s.2.a3
      obtain ⟨r4, e4, l4⟩ := num4 s.2.a4
      obtain ⟨r5, e5, l5⟩ := num4 s.2.a5
      obtain ⟨r6, e6, l6⟩ := num4 s.2.a6
      obtain ⟨r7, e7, l7⟩ := num4 s.2.a7
      simp [e0, e1, e2, e3, e4, e5, e6, e7, grd, l0, l1, l2, l3, l4, l5, l6, l7]
    · exact hq.elim
theorem Text1_spec {b : List UInt8} (hb : b.length ≤ 1099511627776) : ∃ r, hash_Text_n1 b = some r ∧ r.size = 32 := by
  unfold hash_Text_n1
  obtain ⟨r, hr, hl⟩ := Sum_spec hb
  rw [Cat1_spec hb, Option.bind_some, hr, Option.bind_some]
  exact ⟨_, rfl, by simpa [ByteArray.size] using hl⟩
theorem Check_ok {i : api_Inv} (h : deal_Check i = 0) : i.Root.size = 8 ∧ i.Id.size ≤ 16 := by
  unfold deal_Check deal_in thn at h
  constructor
  · refine Classical.byContradiction fun hr => ?_
    have h2 : ((i.Root.size : Int)) ≠ 8 := by omega
    simp [h2] at h
  · refine Classical.byContradiction fun hr => ?_
    have h2 : ¬ ((i.Id.size : Int) ≤ 16) := by omega
    simp [h2] at h
theorem Key_spec (i : api_Inv) : ∃ r, deal_Key i = some r ∧ r.size ≤ 32 := by
  unfold deal_Key
  by_cases h : deal_Check i = 0
  · rw [if_neg (by simpa using h)]
    obtain ⟨h1, h2⟩ := Check_ok h
    have hn : Okf field_New := by unfold field_New Okf; simp
    obtain ⟨o, ho, hk⟩ := Put_spec (i := i) hn (by omega) (by omega)
    obtain ⟨r, hr, hl⟩ := Done_spec hk
    obtain ⟨t, ht, hs⟩ := Text1_spec (b := r.1) (by omega)
    rw [ho, Option.bind_some, hr, Option.bind_some, ht]
    exact ⟨_, rfl, by omega⟩
  · rw [if_pos (by simpa using h)]
    exact ⟨_, rfl, by decide⟩
end Go.Sl
