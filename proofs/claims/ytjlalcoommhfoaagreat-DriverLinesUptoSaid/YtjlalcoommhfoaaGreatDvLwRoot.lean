/- The root of a key comes to something. -/
import Derived.Test.YtjlalcoommhfoaaGreatDvLwCat
import Derived.Test.YtjlalcoommhfoaaGreatLwTt
set_option linter.unusedVariables false
set_option linter.unusedSimpArgs false
namespace Go.Sl
theorem at_some {α : Type} {xs : List α} {m : Int} (h0 : 0 ≤ m) (h : m < xs.length) : ∃ x, at_ xs m = some x := ⟨_, at_ok h0 h⟩
section
variable {σ β γ : Type}
/-- A loop that counts. -/
theorem loopW_cnt {f : Int × σ → Option (Ct (Int × σ) β)} {n : Nat} {i0 : Nat} (step : ∀ (i : Nat) (s : σ), i0 ≤ i → i < n → ∃ s', f ((i : Int), s) = some (.nx (((i + 1 : Nat) : Int), s')))
    (stop : ∀ s : σ, f ((n : Int), s) = some (.br ((n : Int), s))) (h : i0 ≤ n) (s : σ) : ∃ s', loopW f ((i0 : Int), s) = some (.dn ((n : Int), s')) := by
  obtain ⟨k, rfl⟩ : ∃ k, n = i0 + k := ⟨n - i0, by omega⟩
  clear h
  induction k generalizing i0 s with
  | zero =>
    rw [loopW_step]
    have := stop s
    simp only [Nat.add_zero] at this
    rw [this]
    exact ⟨s, rfl⟩
  | succ k ih =>
    obtain ⟨s', hs⟩ := step i0 s (Nat.le_refl _) (by omega)
    rw [loopW_step, hs]
    have e : i0 + (k + 1) = (i0 + 1) + k := by omega
    rw [e] at step stop ⊢
    exact ih s' (fun i s h1 h2 => step i s (by omega) h2) stop
theorem loopW_cntb {f : Int × σ → Option (Ct (Int × σ) β)} {g : Lo (Int × σ) β → Option γ} {G : γ → Prop} (n i0 : Nat) {m : Int} {s : σ} (hm : m = i0) (h : i0 ≤ n) (step : ∀ (i : Nat) (s : σ), i0 ≤ i → i < n → ∃ s', f ((i : Int), s) = some (.nx (((i + 1 : Nat) : Int), s')))
    (stop : ∀ s : σ, f ((n : Int), s) = some (.br ((n : Int), s))) (fin : ∀ s', ∃ r, g (.dn ((n : Int), s')) = some r ∧ G r) : ∃ r, Option.bind (loopW f (m, s)) g = some r ∧ G r := by
  subst hm
  obtain ⟨s', hs⟩ := loopW_cnt step stop h s
  rw [hs]
  exact fin s'
end
theorem wr1 {i : Nat} (h : i < 1099511627776) : IntKind.i64.wrap ((i : Int) + 1) = ((i + 1 : Nat) : Int) := by
  rw [wrap64 (by omega) (by omega)]; rfl
theorem Num_spec (n : Int) (k : Nat) (hk : k ≤ 8) : ∃ r, blob_Num n (k : Int) = some r ∧ r.length = k := ⟨_, Num_val n hk, be_len k n⟩
theorem Grow_spec {n : Int} (h0 : 0 ≤ n) (h : n ≤ 1099511627776) : slices_Grow_byte_nil n = some [] := Grow_val h0 h
theorem Cat1_spec {a : List UInt8} (h : a.length ≤ 1099511627776) : blob_Cat_n1 a = some a := Cat1_val h
theorem Cat2_spec {a b : List UInt8} (h : a.length + b.length ≤ 1099511627776) : blob_Cat_n2 a b = some (a ++ b) := by
  unfold blob_Cat_n2 slices_Concat_byte_n2
  rw [wrap64 (n := 0 + (a.length : Int)) (by omega) (by omega), if_neg (by rw [decide_eq_true_iff]; omega), wrap64 (by omega) (by omega), if_neg (by rw [decide_eq_true_iff]; omega), Grow_spec (by omega) (by omega), Option.bind_some, grd_pos (by simp; omega), grd_pos (by simp; omega)]
  rfl
theorem Pad_spec {b : List UInt8} (hb : b.length ≤ 1099511627776) : ∃ r, hash_Pad b = some r ∧ r.length % 64 = 0 ∧ r.length ≤ 1099511628000 := by
  unfold hash_Pad slices_Clone_byte
  rw [grd_pos (by simp; omega), Option.bind_some, grd_pos (by simp; omega)]
  refine loopW_bind (fun k s => k = (120 - s.length % 64) % 64 ∧ s.length + k ≤ b.length + 65) (fun o => match o with | .dn s => s.length % 64 = 56 ∧ s.length ≤ b.length + 65 | .rt r => False) _ ⟨rfl, ?_⟩ ?_ ?_
  · simp; omega
  · rintro k s ⟨rfl, hk⟩
    have ht : Int.tmod (s.length : Int) 64 = ((s.length % 64 : Nat) : Int) := tmod_nat _ 64
    rw [ht]
    by_cases h : s.length % 64 = 56
    · rw [if_neg (by rw [h]; decide)]
      exact ⟨_, rfl, h, by omega⟩
    · rw [if_pos (decide_eq_true (by omega)), grd_pos (by simp; omega)]
      refine ⟨_, rfl, _, ?_, rfl, ?_⟩
      · simp; omega
      · simp; omega
  · rintro (s | r) hq
    · obtain ⟨h1, h2⟩ := hq
      obtain ⟨r, hr, hl⟩ := Num_spec (IntKind.i64.wrap (8 * (b.length : Int))) 8 (by omega)
      have hr' : blob_Num (IntKind.i64.wrap (8 * (b.length : Int))) 8 = some r := hr
      rw [Lo.on, hr', Option.bind_some, grd_pos (by omega)]
      exact ⟨_, rfl, by simp; omega, by simp; omega⟩
    · exact hq.elim
theorem IntB_spec {b : List UInt8} : ∃ r, blob_Int b = some r := ⟨_, Int_val b⟩
theorem three_spec {x : UInt32} {a b c : Int} {z : Bool} (h : 0 ≤ c) : ∃ r, hash_three x a b c z = some r := by
  unfold hash_three
  split
  · rw [grd_pos h]; exact ⟨_, rfl⟩
  · exact ⟨_, rfl⟩
theorem a64_at (s : A64_u32) {m : Int} (h0 : 0 ≤ m) (h : m < 64) : ∃ x, at_ (A64_u32.list s) m = some x := at_some h0 (by simpa [A64_u32.list] using h)
theorem sched_spec {b : List UInt8} (h : b.length = 64) : ∃ r, hash_schedule b = some r := by
  have key : ∃ r, hash_schedule b = some r ∧ True := by
    unfold hash_schedule
    refine loopW_cntb 16 0 rfl (by omega) ?_ ?_ ?_
    · intro i s _ hlt
      dsimp only
      rw [if_pos (decide_eq_true (by omega)), wrap64 (n := 4 * (i : Int)) (by omega) (by omega), wrap64 (n := 4 * (i : Int) + 4) (by omega) (by omega)]
      have hk : okS b.length (some (4 * (i : Int))) (some (4 * (i : Int) + 4)) none := by
        unfold okS; simp; omega
      obtain ⟨r, hr⟩ := IntB_spec (b := slc b (4 * (i : Int)).toNat (4 * (i : Int) + 4).toNat)
      obtain ⟨x, hx⟩ := a64_at s (m := (i : Int)) (by omega) (by omega)
      rw [grd_pos hk, hr, Option.bind_some, hx, Option.bind_some, wr1 (by omega)]
      exact ⟨_, rfl⟩
    · intro s
      dsimp only
      rw [if_neg (by simp)]
    · intro s
      rw [Lo.on]
      refine loopW_cntb 64 16 rfl (by omega) ?_ ?_ ?_
      · intro i s _ hlt
        dsimp only
        rw [if_pos (decide_eq_true (by omega))]
        obtain ⟨x1, h1⟩ := a64_at s (m := (i : Int) - 2) (by omega) (by omega)
        obtain ⟨x2, h2⟩ := a64_at s (m := (i : Int) - 7) (by omega) (by omega)
        obtain ⟨x3, h3⟩ := a64_at s (m := (i : Int) - 15) (by omega) (by omega)
        obtain ⟨x4, h4⟩ := a64_at s (m := (i : Int) - 16) (by omega) (by omega)
        obtain ⟨x5, h5⟩ := a64_at s (m := (i : Int)) (by omega) (by omega)
        obtain ⟨r1, e1⟩ := three_spec (x := x1) (a := 17) (b := 19) (c := 10) (z := true) (by decide)
        obtain ⟨r2, e2⟩ := three_spec (x := x3) (a := 7) (b := 18) (c := 3) (z := true) (by decide)
        rw [wrap64 (n := (i : Int) - 2) (by omega) (by omega), wrap64 (n := (i : Int) - 7) (by omega) (by omega), wrap64 (n := (i : Int) - 15) (by omega) (by omega), wrap64 (n := (i : Int) - 16) (by omega) (by omega), wr1 (by omega),
          h1, Option.bind_some, h2, Option.bind_some, h3, Option.bind_some, h4, Option.bind_some, e1, Option.bind_some, e2, Option.bind_some, h5, Option.bind_some]
        exact ⟨_, rfl⟩
      · intro s
        dsimp only
        rw [if_neg (by simp)]
      · intro s
        exact ⟨_, rfl, trivial⟩
  obtain ⟨r, hr, _⟩ := key
  exact ⟨r, hr⟩
theorem round_spec (s : hash_eight) (x : UInt32) : ∃ r, hash_eight_round s x = some r := by
  unfold hash_eight_round
  obtain ⟨r1, e1⟩ := three_spec (x := s.a4) (a := 6) (b := 11) (c := 25) (z := false) (by decide)
  obtain ⟨r2, e2⟩ := three_spec (x := s.a0) (a := 2) (b := 13) (c := 22) (z := false) (by decide)
  rw [e1, Option.bind_some, e2, Option.bind_some]
  exact ⟨_, rfl⟩
theorem num4 (x : UInt32) : ∃ r, blob_Num (x.toNat : Int) 4 = some r ∧ r.length = 4 := Num_spec _ 4 (by omega)
theorem Sum_spec {b : List UInt8} (hb : b.length ≤ 1099511627776) : ∃ r, hash_Sum b = some r ∧ r.length = 32 := by
  unfold hash_Sum slices_Chunk_byte
  obtain ⟨p, hp, hp1, hp2⟩ := Pad_spec hb
  rw [hp, Option.bind_some, if_neg (by decide), Option.bind_some]
  obtain ⟨N, hN⟩ : ∃ N, p.length = 64 * N := ⟨p.length / 64, by omega⟩
  refine loopW_bind (fun k s => ∃ i : Nat, s.1 = ((64 * i : Nat) : Int) ∧ i ≤ N ∧ k = N - i) (fun o => match o with | .dn s => True | .rt r => False) N ⟨0, rfl, by omega, by omega⟩ ?_ ?_
  · rintro k ⟨i0, s⟩ ⟨i, rfl, hi, rfl⟩
    dsimp only
    by_cases hlt : i < N
    · rw [if_pos (decide_eq_true (by omega))]
      have hsl : (slc p (((64 * i : Nat) : Int)).toNat p.length).length = p.length - 64 * i := by simp [slc]; omega
      have hge : ¬ (((slc p (((64 * i : Nat) : Int)).toNat p.length).length : Int) < 64) := by rw [hsl]; omega
      rw [if_neg hge, wrap64 (n := ((64 * i : Nat) : Int) + 64) (by omega) (by omega)]
      have hk1 : okS p.length (some ((64 * i : Nat) : Int)) none none := by unfold okS; simp; omega
      have hk2 : okS p.length (some ((64 * i : Nat) : Int)) (some (((64 * i : Nat) : Int) + 64)) (some (((64 * i : Nat) : Int) + 64)) := by unfold okS; simp; omega
      obtain ⟨w, hw⟩ := sched_spec (b := slc p (((64 * i : Nat) : Int)).toNat (((64 * i : Nat) : Int) + 64).toNat) (by simp [slc]; omega)
      rw [grd_pos hk1, grd_pos hk2, hw, Option.bind_some]
      refine loopW_bind (fun k s => ∃ j : Nat, s.1 = j ∧ j ≤ 64 ∧ k = 64 - j) (fun o => match o with | .dn s => True | .rt r => False) 64 ⟨0, rfl, by omega, by omega⟩ ?_ ?_
      · rintro k ⟨j0, s⟩ ⟨j, rfl, hj, rfl⟩
        dsimp only
        by_cases hjl : j < 64
        · rw [if_pos (decide_eq_true (by omega))]
          obtain ⟨x1, h1⟩ := a64_at w (m := (j : Int)) (by omega) (by omega)
          obtain ⟨x2, h2⟩ := a64_at hash_keys (m := (j : Int)) (by omega) (by omega)
          obtain ⟨r, hr⟩ := round_spec s (x2 + x1)
          rw [h1, Option.bind_some, h2, Option.bind_some, hr, Option.bind_some, wrap64 (n := (j : Int) + 1) (by omega) (by omega)]
          exact ⟨_, rfl, 64 - (j + 1), by omega, j + 1, by simp, by omega, rfl⟩
        · rw [if_neg (by rw [decide_eq_true_iff]; omega)]
          exact ⟨_, rfl, trivial⟩
      · rintro (s | r) hq
        · rw [Lo.on]
          exact ⟨_, rfl, N - (i + 1), by omega, i + 1, by dsimp only; omega, by omega, rfl⟩
        · exact hq.elim
    · rw [if_neg (by rw [decide_eq_true_iff]; omega)]
      exact ⟨_, rfl, trivial⟩
  · rintro (s | r) hq
    · rw [Lo.on]
      obtain ⟨r0, e0, l0⟩ := num4 s.2.a0
      obtain ⟨r1, e1, l1⟩ := num4 s.2.a1
      obtain ⟨r2, e2, l2⟩ := num4 s.2.a2
      obtain ⟨r3, e3, l3⟩ := num4 s.2.a3
      obtain ⟨r4, e4, l4⟩ := num4 s.2.a4
      obtain ⟨r5, e5, l5⟩ := num4 s.2.a5
      obtain ⟨r6, e6, l6⟩ := num4 s.2.a6
      obtain ⟨r7, e7, l7⟩ := num4 s.2.a7
      simp [e0, e1, e2, e3, e4, e5, e6, e7, grd, l0, l1, l2, l3, l4, l5, l6, l7]
    · exact hq.elim
theorem Text1_spec {b : List UInt8} (hb : b.length ≤ 1099511627776) : ∃ r, hash_Text_n1 b = some r ∧ r.size = 32 := by
  unfold hash_Text_n1
  obtain ⟨r, hr, hl⟩ := Sum_spec hb
  rw [Cat1_spec hb, Option.bind_some, hr, Option.bind_some]
  exact ⟨_, rfl, by simpa [ByteArray.size] using hl⟩
theorem Cat_val {a : List (List UInt8)} (h : a.flatten.length ≤ 1099511627776) : blob_Cat a = some a.flatten := by
  have le : ∀ i, ((a.take i).flatten).length ≤ a.flatten.length := fun i => by
    have : a.flatten = (a.take i).flatten ++ (a.drop i).flatten := by rw [← List.flatten_append, List.take_append_drop]
    rw [this, List.length_append]; omega
  have tk : ∀ i x, a[i]? = some x → (a.take (i + 1)).flatten = (a.take i).flatten ++ x := fun i x hx => by rw [List.take_add_one, hx]; simp
  have key : Tt (blob_Cat a) (fun r => r = a.flatten) := by
    unfold blob_Cat slices_Concat_byte
    refine .bind (P := fun r => r = a.flatten) ?_ fun y hy => .pure hy
    refine Tt.loopR (fun i s => s = ((a.take i).flatten.length : Int)) (by simp) ?_ ?_
    · rintro i x s hx rfl
      have h1 := le (i + 1)
      rw [tk i x hx, List.length_append] at h1
      have e : IntKind.i64.wrap (((a.take i).flatten.length : Int) + (x.length : Int)) = ((a.take i).flatten.length : Int) + (x.length : Int) := wrap64 (by omega) (by omega)
      rw [e]
      refine .ite (fun hp => ?_) (fun _ => .pure ?_)
      · rw [decide_eq_true_iff] at hp; omega
      · show _ = _
        rw [tk i x hx, List.length_append]; rfl
    · rintro s rfl
      rw [List.take_length, Grow_val (by omega) (by omega), Option.bind_some]
      refine Tt.loopR (fun i s => s = (a.take i).flatten) (by simp) ?_ ?_
      · rintro i x s hx rfl
        have h1 := le (i + 1)
        rw [tk i x hx, List.length_append] at h1
        exact .grd (by omega) (.pure (tk i x hx).symm)
      · rintro s rfl
        rw [List.take_length]
        exact .pure rfl
  obtain ⟨r, hr, rfl⟩ := key
  exact hr
theorem Short1_spec {b : List UInt8} (hb : b.length ≤ 1099511627776) : ∃ r, hash_Short_n1 b = some r ∧ r.size = 8 := by
  unfold hash_Short_n1
  obtain ⟨r, hr, hs⟩ := Text1_spec hb
  rw [hr, Option.bind_some, grd_pos (by unfold okS; simp; omega)]
  exact ⟨_, rfl, by simp [hs]⟩
theorem Short_spec {b : List (List UInt8)} (hb : b.flatten.length ≤ 1099511627776) : ∃ r, hash_Short b = some r ∧ r.size = 8 := by
  unfold hash_Short hash_Text
  obtain ⟨s, hs, hl⟩ := Sum_spec hb
  rw [Cat_val hb, Option.bind_some, hs, Option.bind_some, Option.bind_some, grd_pos (by unfold okS; simp [ByteArray.size, hl])]
  exact ⟨_, rfl, by simp [ByteArray.size_extract, ByteArray.size, hl]⟩
theorem Short2_spec {a b : List UInt8} (hb : a.length + b.length ≤ 1099511627776) : ∃ r, hash_Short_n2 a b = some r ∧ r.size = 8 := by
  unfold hash_Short_n2 hash_Text_n2
  obtain ⟨s, hs, hl⟩ := Sum_spec (b := a ++ b) (by simpa using hb)
  rw [Cat2_spec hb, Option.bind_some, hs, Option.bind_some, Option.bind_some, grd_pos (by unfold okS; simp [ByteArray.size, hl])]
  exact ⟨_, rfl, by simp [ByteArray.size_extract, ByteArray.size, hl]⟩
theorem data_len (s : ByteArray) : s.data.toList.length = s.size := by simp <;> rfl
theorem Walk_spec {s : ByteArray} {n : Int} (h : s.size = 8) : ∃ r, ots_Walk s n = some r ∧ r.size = 8 := by
  unfold ots_Walk
  obtain ⟨m, hm, h3⟩ : ∃ m, (if (3 : Int) < (if 0 > n then 0 else n) then 3 else (if 0 > n then 0 else n)) = m ∧ m ≤ 3 := ⟨_, rfl, by split <;> omega⟩
  rw [hm]
  refine Tt.loopW (S := fun r : ByteArray => r.size = 8) (fun k s => ∃ i : Nat, s.1 = i ∧ k = 3 - i ∧ i ≤ 3 ∧ s.2.size = 8) (fun s => s.2.size = 8) 3 ⟨0, rfl, rfl, by omega, h⟩ ?_ fun s hs => .pure hs
  rintro k ⟨j, s⟩ ⟨i, rfl, rfl, hi, hs⟩
  dsimp only at *
  refine .ite (fun hp => ?_) (fun _ => .pure hs)
  rw [decide_eq_true_iff] at hp
  obtain ⟨r, hr, hl⟩ := Short1_spec (b := s.data.toList) (by rw [data_len]; omega)
  refine .grd (by omega) ?_
  rw [hr, Option.bind_some]
  refine .pure ⟨3 - (i + 1), by omega, i + 1, ?_, rfl, by omega, hl⟩
  dsimp only
  rw [wrap64 (by omega) (by omega)]; rfl
theorem flat8 {l : List (List UInt8)} (h : ∀ x ∈ l, x.length = 8) : l.flatten.length = 8 * l.length := by
  induction l with
  | nil => rfl
  | cons x l ih => rw [List.flatten_cons, List.length_append, h x (by simp), ih fun y hy => h y (by simp [hy])]; simp; omega
theorem closed_spec {ps : List ByteArray} {d : List Int} (hp : ∀ p ∈ ps, p.size = 8) (hl : ps.length ≤ 1000) (hd : ps.length ≤ d.length) : ∃ r, ots_closed ps d = some r ∧ r.size = 8 := by
  unfold ots_closed
  refine Tt.loopR (S := fun r : ByteArray => r.size = 8) (fun i s => s.length = i ∧ ∀ x ∈ s, x.length = 8) ⟨rfl, by simp⟩ ?_ ?_
  · rintro i p s hx ⟨hs, h8⟩
    have hi : i < ps.length := (List.getElem?_eq_some_iff.1 hx).1
    refine .bind (Tt.at1 (by omega) (by omega)) fun x _ => ?_
    obtain ⟨r, hr, hrs⟩ := Walk_spec (n := IntKind.i64.wrap (3 - x)) (hp p (List.mem_of_getElem? hx))
    rw [hr, Option.bind_some]
    refine .grd (by omega) (.grd (by simp [hs]; omega) (.pure ⟨by simp [hs], fun y hy => ?_⟩))
    rcases List.mem_append.1 hy with h1 | h1
    · exact h8 y h1
    · simp at h1; subst h1; rw [data_len]; exact hrs
  · rintro s ⟨hs, h8⟩
    obtain ⟨r, hr, hrs⟩ := Short_spec (b := s) (by rw [flat8 h8]; omega)
    rw [hr, Option.bind_some]
    exact .pure hrs
theorem join_spec {a b : ByteArray} (h : a.size ≤ 1000) (h2 : b.size ≤ 1000) : ∃ r, mss_join a b = some r ∧ r.size = 8 := by
  unfold mss_join
  obtain ⟨r, hr, hs⟩ := Short2_spec (a := a.data.toList) (b := b.data.toList) (by rw [data_len, data_len]; omega)
  rw [grd_pos (by omega), grd_pos (by omega), hr]
  exact ⟨_, rfl, hs⟩
theorem Cat3_spec {a b c : List UInt8} (h : a.length + b.length + c.length ≤ 1099511627776) : blob_Cat_n3 a b c = some (a ++ b ++ c) := by
  unfold blob_Cat_n3 slices_Concat_byte_n3
  rw [wrap64 (n := 0 + (a.length : Int)) (by omega) (by omega), if_neg (by rw [decide_eq_true_iff]; omega), wrap64 (n := 0 + (a.length : Int) + (b.length : Int)) (by omega) (by omega), if_neg (by rw [decide_eq_true_iff]; omega), wrap64 (by omega) (by omega), if_neg (by rw [decide_eq_true_iff]; omega), Grow_spec (by omega) (by omega), Option.bind_some, grd_pos (by simp; omega), grd_pos (by simp; omega), grd_pos (by simp; omega)]
  rfl
theorem Short3_spec {a b c : List UInt8} (hb : a.length + b.length + c.length ≤ 1099511627776) : ∃ r, hash_Short_n3 a b c = some r ∧ r.size = 8 := by
  unfold hash_Short_n3 hash_Text_n3
  obtain ⟨s, hs, hl⟩ := Sum_spec (b := a ++ b ++ c) (by simp; omega)
  rw [Cat3_spec hb, Option.bind_some, hs, Option.bind_some, Option.bind_some, grd_pos (by unfold okS; simp [ByteArray.size, hl])]
  exact ⟨_, rfl, by simp [ByteArray.size_extract, ByteArray.size, hl]⟩
theorem Begin_spec {s : ByteArray} (hs : s.size ≤ 1048576) (m : Int) : Tt (ots_Begin s m) (fun l => l.length = 15 ∧ ∀ p ∈ l, p.size = 8) := by
  unfold ots_Begin
  obtain ⟨r, hr, hl⟩ := Num_spec (if 65535 < (if 0 > m then 0 else m) then 65535 else if 0 > m then 0 else m) 2 (by omega)
  have hr' : blob_Num (if 65535 < (if 0 > m then 0 else m) then 65535 else if 0 > m then 0 else m) 2 = some r := hr
  rw [hr', Option.bind_some]
  refine Tt.loopW (S := fun l : List ByteArray => l.length = 15 ∧ ∀ p ∈ l, p.size = 8) (fun k s => ∃ i : Nat, s.1 = i ∧ i ≤ 15 ∧ k = 15 - i ∧ s.2.length = i ∧ ∀ p ∈ s.2, p.size = 8) (fun s => s.2.length = 15 ∧ ∀ p ∈ s.2, p.size = 8) 15 ⟨0, rfl, by omega, rfl, rfl, by simp⟩ ?_ fun s hs => .pure hs
  rintro k ⟨j, l⟩ ⟨i, rfl, hi, rfl, hll, hp⟩
  dsimp only at *
  refine .ite (fun hq => ?_) fun hq => .pure ?_
  · rw [decide_eq_true_iff] at hq
    obtain ⟨q, hq1, hq2⟩ := Short3_spec (a := s.data.toList) (b := r) (c := [B8i (i : Int)]) (by rw [data_len, hl]; simp; omega)
    refine .grd (by omega) ?_
    rw [hq1, Option.bind_some]
    refine .grd (by simp; omega) (.pure ⟨15 - (i + 1), by omega, i + 1, by dsimp only; rw [wrap64 (by omega) (by omega)]; rfl, by omega, rfl, by simp [hll], fun p hm => ?_⟩)
    rcases List.mem_append.1 hm with h1 | h1
    · exact hp p h1
    · simp at h1; subst h1; exact hq2
  · rw [decide_eq_false_iff_not] at hq
    have : i = 15 := by omega
    subst this
    exact ⟨hll, hp⟩
theorem Public_spec {s : ByteArray} (hs : s.size ≤ 1048576) (m : Int) : ∃ r, ots_Public s m = some r ∧ r.size = 8 := by
  unfold ots_Public
  obtain ⟨l, hl, h1, h2⟩ := Begin_spec hs m
  obtain ⟨r, hr, hr8⟩ := closed_spec (d := List.replicate (15 : Int).toNat (0 : Int)) h2 (by omega) (by rw [h1]; simp)
  rw [hl, Option.bind_some, hr]
  exact ⟨r, rfl, hr8⟩
theorem row_spec {s : ByteArray} (hs : s.size ≤ 1048576) : ∃ l, mss_row s = some l ∧ l.length = 8 ∧ ∀ p ∈ l, p.size = 8 := by
  unfold mss_row
  obtain ⟨r0, h0, e0⟩ := Public_spec hs 0
  obtain ⟨r1, h1, e1⟩ := Public_spec hs 1
  obtain ⟨r2, h2, e2⟩ := Public_spec hs 2
  obtain ⟨r3, h3, e3⟩ := Public_spec hs 3
  obtain ⟨r4, h4, e4⟩ := Public_spec hs 4
  obtain ⟨r5, h5, e5⟩ := Public_spec hs 5
  obtain ⟨r6, h6, e6⟩ := Public_spec hs 6
  obtain ⟨r7, h7, e7⟩ := Public_spec hs 7
  rw [h0, h1, h2, h3, h4, h5, h6, h7]
  exact ⟨_, rfl, rfl, by simp [e0, e1, e2, e3, e4, e5, e6, e7]⟩
theorem above_spec {l : List ByteArray} (hl : l.length ≤ 1000) (h8 : ∀ p ∈ l, p.size = 8) : ∃ r, mss_above l = some r ∧ r.length = l.length / 2 ∧ ∀ p ∈ r, p.size = 8 := by
  unfold mss_above
  refine Tt.loopW (S := fun r : List ByteArray => r.length = l.length / 2 ∧ ∀ p ∈ r, p.size = 8) (fun k s => ∃ i : Nat, s.1 = ((2 * i : Nat) : Int) ∧ i ≤ l.length / 2 ∧ k = l.length / 2 - i ∧ s.2.length = i ∧ ∀ p ∈ s.2, p.size = 8) (fun s => s.2.length = l.length / 2 ∧ ∀ p ∈ s.2, p.size = 8) (l.length / 2) ⟨0, rfl, by omega, rfl, rfl, by simp⟩ ?_ fun s hs => .pure hs
  rintro k ⟨j, o⟩ ⟨i, rfl, hi, rfl, hll, hp⟩
  dsimp only at *
  rw [wrap64 (n := ((2 * i : Nat) : Int) + 1) (by omega) (by omega)]
  refine .ite (fun hq => ?_) fun hq => .pure ?_
  · rw [decide_eq_true_iff] at hq
    refine .bind (Tt.at1 (by omega) (by omega)) fun x hx => .bind (Tt.at1 (by omega) (by omega)) fun y hy => ?_
    obtain ⟨q, hq1, hq2⟩ := join_spec (a := x) (b := y) (by rw [h8 x hx]; omega) (by rw [h8 y hy]; omega)
    rw [hq1, Option.bind_some]
    refine .grd (by simp; omega) (.pure ⟨l.length / 2 - (i + 1), by omega, i + 1, by dsimp only; rw [wrap64 (by omega) (by omega)]; omega, by omega, rfl, by simp [hll], fun p hm => ?_⟩)
    rcases List.mem_append.1 hm with h1 | h1
    · exact hp p h1
    · simp at h1; subst h1; exact hq2
  · rw [decide_eq_false_iff_not] at hq
    have : i = l.length / 2 := by omega
    subst this
    exact ⟨hll, hp⟩
theorem Root_spec {s : ByteArray} (hs : s.size ≤ 1048576) : ∃ r, mss_Root s = some r ∧ r.size = 8 := by
  unfold mss_Root
  obtain ⟨l, hl, h1, h2⟩ := row_spec hs
  rw [hl, Option.bind_some]
  refine Tt.loopW (S := fun r : ByteArray => r.size = 8) (fun k s => k = s.length ∧ 1 ≤ s.length ∧ s.length ≤ 8 ∧ ∀ p ∈ s, p.size = 8) (fun s => 1 ≤ s.length ∧ ∀ p ∈ s, p.size = 8) 8 ⟨h1.symm, by omega, by omega, h2⟩ ?_ ?_
  · rintro k s ⟨rfl, a1, a2, a3⟩
    refine .ite (fun hq => ?_) fun hq => .pure ⟨a1, a3⟩
    rw [decide_eq_true_iff] at hq
    obtain ⟨r, hr, b1, b2⟩ := above_spec (l := s) (by omega) a3
    rw [hr, Option.bind_some]
    exact .pure ⟨r.length, by omega, rfl, by omega, by omega, b2⟩
  · rintro s ⟨a1, a3⟩
    refine .bind (Tt.at1 (by omega) (by omega)) fun x hx => .pure (a3 x hx)
end Go.Sl
