/- Scripts come back from their octets, and octets from their scripts. -/
import Derived.Test.YtdkjcjicnnegkaaGreatSrLwCat
set_option linter.unusedVariables false
set_option linter.unusedSimpArgs false
namespace Go.Sl
theorem Cat3_val {a b c : List UInt8} (h : a.length + b.length + c.length ≤ 1099511627776) : blob_Cat_n3 a b c = some (a ++ b ++ c) := by
  unfold blob_Cat_n3 slices_Concat_byte_n3
  rw [wrap64 (n := 0 + (a.length : Int)) (by omega) (by omega), if_neg (by rw [decide_eq_true_iff]; omega), wrap64 (n := 0 + (a.length : Int) + (b.length : Int)) (by omega) (by omega), if_neg (by rw [decide_eq_true_iff]; omega),
    wrap64 (by omega) (by omega), if_neg (by rw [decide_eq_true_iff]; omega), Grow_val (by omega) (by omega), Option.bind_some, grd_pos (by simp; omega), grd_pos (by simp; omega), grd_pos (by simp; omega)]
  rfl
/-- A step's octets. -/
def stE (x : api_Step) : List UInt8 := [B8i x.Kind] ++ be (x.A + 32768) 2 ++ be (x.B + 32768) 2 ++ be (x.C + 32768) 2 ++ be (x.Data.length : Int) 2 ++ x.Data
def okN (n : Int) : Prop := -32768 ≤ n ∧ n < 32768
structure okT (x : api_Step) : Prop where
  k0 : 0 ≤ x.Kind
  k1 : x.Kind ≤ 255
  a : okN x.A
  b : okN x.B
  c : okN x.C
theorem stE_len (x : api_Step) : (stE x).length = 9 + x.Data.length := by simp [stE, be_len]; omega
theorem odd1_iff (n : Int) : script_odd_1 n = false ↔ okN n := by
  unfold script_odd_1 thn okN
  by_cases h : n < -32768
  · rw [if_pos (decide_eq_true h)]; simp; omega
  · rw [if_neg (by simpa using h)]; simp; omega
theorem odd_val (x : api_Step) : ∃ b, script_odd x = some b ∧ (b = false ↔ okT x) := by
  unfold script_odd
  by_cases h1 : x.Kind < 0
  · rw [if_pos (decide_eq_true h1)]
    exact ⟨true, rfl, by simp; intro h; have := h.k0; omega⟩
  rw [if_neg (by simpa using h1)]
  by_cases h2 : x.Kind > 255
  · rw [if_pos (decide_eq_true h2)]
    exact ⟨true, rfl, by simp; intro h; have := h.k1; omega⟩
  rw [if_neg (by simpa using h2)]
  unfold slices_ContainsFunc_int_script_odd_1 slices_IndexFunc_int_script_odd_1
  have ha := odd1_iff x.A; have hb := odd1_iff x.B; have hc := odd1_iff x.C
  have ok : okT x ↔ okN x.A ∧ okN x.B ∧ okN x.C := ⟨fun h => ⟨h.a, h.b, h.c⟩, fun ⟨a, b, c⟩ => ⟨by omega, by omega, a, b, c⟩⟩
  rw [ok, ← ha, ← hb, ← hc]
  cases hA : script_odd_1 x.A <;> cases hB : script_odd_1 x.B <;> cases hC : script_odd_1 x.C <;> simp [loopR, Lo.on, hA, hB, hC]
theorem step_val {x : api_Step} (h : okT x) (hd : x.Data.length ≤ 1024) : script_step x = some (stE x) := by
  unfold script_step
  have hn : ∀ n : Int, blob_Num n 2 = some (be n 2) := fun n => Num_val n (k := 2) (by omega)
  obtain ⟨_, _, ha, hb, hc⟩ := h
  unfold okN at ha hb hc
  rw [wrap64 (by omega) (by omega), wrap64 (by omega) (by omega), wrap64 (by omega) (by omega), hn, hn, hn, hn]
  simp only [Option.bind_some]
  rw [grd_pos (by simp [be_len]), grd_pos (by simp [be_len]), grd_pos (by simp [be_len]), Cat3_val (by simp [be_len]; omega)]
  rfl
/-- All steps' octets. -/
def scE (l : List api_Step) : List UInt8 := (l.map stE).flatten
theorem scE_snoc (l : List api_Step) (x : api_Step) : scE (l ++ [x]) = scE l ++ stE x := by simp [scE]
theorem scE_take {l : List api_Step} {i : Nat} {x : api_Step} (hx : l[i]? = some x) : scE (l.take (i + 1)) = scE (l.take i) ++ stE x := by
  rw [List.take_add_one, hx]; exact scE_snoc _ _
theorem scE_le (l : List api_Step) (i : Nat) : (scE (l.take i)).length ≤ (scE l).length := by
  have : scE l = scE (l.take i) ++ scE (l.drop i) := by unfold scE; rw [← List.flatten_append, ← List.map_append, List.take_append_drop]
  rw [this, List.length_append]; omega
structure okS' (l : List api_Step) : Prop where
  n : l.length ≤ 512
  w : ∀ x ∈ l, okT x
  d : ∀ x ∈ l, x.Data.length ≤ 1024
  o : (scE l).length ≤ 8192
theorem Put_val (l : List api_Step) : (okS' l ∧ script_Put l = some (scE l, 0)) ∨ ∃ e, e ≠ 0 ∧ script_Put l = some ([], e) := by
  have key : Tt (script_Put l) (fun r => (okS' l ∧ r = (scE l, 0)) ∨ ∃ e, e ≠ 0 ∧ r = ([], e)) := by
    unfold script_Put
    refine .ite (fun _ => .pure (.inr ⟨3, by decide, rfl⟩)) (fun hn => ?_)
    rw [decide_eq_false_iff_not] at hn
    refine Tt.loopR (fun i _ => ∀ x ∈ l.take i, okT x) (by simp) ?_ ?_
    · intro i x s hx hI
      obtain ⟨b, hb, hiff⟩ := odd_val x
      refine .bind (P := fun b => b = false ↔ okT x) ⟨b, hb, hiff⟩ fun b hiff => ?_
      refine .ite (fun _ => .map (.pure (Q := fun y => y = ([], 4)) rfl) fun _ h => .inr ⟨4, by decide, h⟩) (fun hf => .pure ?_)
      show ∀ y ∈ l.take (i + 1), okT y
      rw [List.take_add_one, hx]
      intro y hy
      rcases List.mem_append.1 hy with h | h
      · exact hI y h
      · simp at h; subst h; exact hiff.1 hf
    · intro s hw
      rw [List.take_length] at hw
      refine Tt.loopR (fun i s => (∀ x ∈ l.take i, x.Data.length ≤ 1024) ∧ s = scE (l.take i) ∧ (scE (l.take i)).length ≤ 8192) ⟨by simp, by simp [scE], by simp [scE]⟩ ?_ ?_
      · rintro i x s hx ⟨hI, rfl, hle⟩
        have hm := hw x (List.mem_of_getElem? hx)
        refine .ite (fun _ => .map (.pure (Q := fun y => y = ([], 5)) rfl) fun _ h => .inr ⟨5, by decide, h⟩) (fun hd => ?_)
        rw [decide_eq_false_iff_not] at hd
        have hd' : x.Data.length ≤ 1024 := by omega
        rw [step_val hm hd', Option.bind_some]
        refine .grd (by rw [stE_len]; omega) ?_
        refine .ite (fun _ => .map (.pure (Q := fun y => y = ([], 5)) rfl) fun _ h => .inr ⟨5, by decide, h⟩) (fun ho => .pure ?_)
        rw [decide_eq_false_iff_not] at ho
        refine ⟨?_, (scE_take hx).symm, by rw [scE_take hx]; omega⟩
        rw [List.take_add_one, hx]
        intro y hy
        rcases List.mem_append.1 hy with h | h
        · exact hI y h
        · simp at h; subst h; exact hd'
      · rintro s ⟨h1, rfl, h3⟩
        rw [List.take_length] at *
        exact .pure (.inl ⟨⟨by omega, hw, h1, h3⟩, rfl⟩)
  obtain ⟨r, hr, h⟩ := key
  rcases h with ⟨h1, rfl⟩ | ⟨e, h1, rfl⟩
  · exact .inl ⟨h1, hr⟩
  · exact .inr ⟨e, h1, hr⟩
theorem Put_ok {l : List api_Step} (h : okS' l) : script_Put l = some (scE l, 0) := by
  have key : Tt (script_Put l) (fun r => r = (scE l, 0)) := by
    unfold script_Put
    refine .ite (fun hn => ?_) (fun _ => ?_)
    · rw [decide_eq_true_iff] at hn; have := h.n; omega
    refine Tt.loopR (fun i _ => True) trivial ?_ ?_
    · intro i x s hx _
      obtain ⟨b, hb, hiff⟩ := odd_val x
      rw [hiff.2 (h.w x (List.mem_of_getElem? hx))] at hb
      rw [hb, Option.bind_some]
      exact .pure trivial
    · intro _ _
      refine Tt.loopR (fun i s => s = scE (l.take i)) (by simp [scE]) ?_ ?_
      · rintro i x s hx rfl
        have hm := List.mem_of_getElem? hx
        have hd := h.d x hm
        have hle : (scE (l.take i) ++ stE x).length ≤ 8192 := by rw [← scE_take hx]; exact Nat.le_trans (scE_le l _) h.o
        have hle2 := hle
        rw [List.length_append] at hle2
        refine .ite (fun hb => ?_) (fun _ => ?_)
        · rw [decide_eq_true_iff] at hb; omega
        rw [step_val (h.w x hm) hd, Option.bind_some]
        refine .grd (by omega) ?_
        refine .ite (fun hb => ?_) (fun _ => .pure (scE_take hx).symm)
        rw [decide_eq_true_iff] at hb; omega
      · rintro s rfl
        rw [List.take_length]
        exact .pure rfl
  obtain ⟨r, hr, rfl⟩ := key
  exact hr
theorem slc_take {α : Type} (b : List α) (i j : Nat) : slc b i j = (b.take j).drop i := rfl
theorem bn_two {n : Int} (h0 : 0 ≤ n) (h : n < 65536) : (bn (be n 2) : Int) = n := by
  obtain ⟨m, rfl⟩ := Int.eq_ofNat_of_zero_le h0
  rw [bn_be 2 m (by omega)]
/-- The first step, of octets that begin with one. -/
theorem next_enc {x : api_Step} (h : okT x) (hd : x.Data.length ≤ 1024) (rest : List UInt8) (hr : rest.length ≤ 8192) : script_next (stE x ++ rest) = some (x, rest, true) := by
  have hlen : (stE x ++ rest).length = 9 + x.Data.length + rest.length := by rw [List.length_append, stE_len]
  obtain ⟨k0, k1, ha, hb, hc⟩ := h
  unfold okN at ha hb hc
  unfold script_next thn
  dsimp only
  rw [if_neg (by rw [decide_eq_true_iff]; omega), grd_pos (by unfold okS; simp only [hlen]; simp; omega)]
  have e : ∀ (i : Nat), stE x ++ rest = [B8i x.Kind] ++ be (x.A + 32768) 2 ++ be (x.B + 32768) 2 ++ be (x.C + 32768) 2 ++ be (x.Data.length : Int) 2 ++ (x.Data ++ rest) := fun _ => by simp [stE]
  have l2 : ∀ n, ∃ p q, be n 2 = [p, q] := fun n => ⟨B8i (n / 256), B8i n, by simp [be]⟩
  obtain ⟨a1, a2, ea⟩ := l2 (x.A + 32768)
  obtain ⟨b1, b2, eb⟩ := l2 (x.B + 32768)
  obtain ⟨c1, c2, ec⟩ := l2 (x.C + 32768)
  obtain ⟨d1, d2, ed⟩ := l2 (x.Data.length : Int)
  have va := bn_two (n := x.A + 32768) (by omega) (by omega); rw [ea] at va
  have vb := bn_two (n := x.B + 32768) (by omega) (by omega); rw [eb] at vb
  have vc := bn_two (n := x.C + 32768) (by omega) (by omega); rw [ec] at vc
  have vd := bn_two (n := (x.Data.length : Int)) (by omega) (by omega); rw [ed] at vd
  have e0 : stE x ++ rest = B8i x.Kind :: a1 :: a2 :: b1 :: b2 :: c1 :: c2 :: d1 :: d2 :: (x.Data ++ rest) := by rw [e 0, ea, eb, ec, ed]; simp
  have s1 : slc (stE x ++ rest) (7 : Int).toNat (9 : Int).toNat = [d1, d2] := by rw [e0]; simp [slc]
  have s2 : slc (stE x ++ rest) (1 : Int).toNat (3 : Int).toNat = [a1, a2] := by rw [e0]; simp [slc]
  have s3 : slc (stE x ++ rest) (3 : Int).toNat (5 : Int).toNat = [b1, b2] := by rw [e0]; simp [slc]
  have s4 : slc (stE x ++ rest) (5 : Int).toNat (7 : Int).toNat = [c1, c2] := by rw [e0]; simp [slc]
  rw [s1, s2, s3, s4]
  simp only [Int_val, Option.bind_some]
  have t2 : ∀ p q : UInt8, [p, q].take 7 = [p, q] := fun _ _ => rfl
  simp only [t2, va, vb, vc, vd]
  have w1 : IntKind.i64.wrap (((stE x ++ rest).length : Int) - 9) = ((stE x ++ rest).length : Int) - 9 := wrap64 (by omega) (by omega)
  simp only [w1, show decide ((x.Data.length : Int) > 1024) = false from by simp; omega, show decide ((x.Data.length : Int) > ((stE x ++ rest).length : Int) - 9) = false from by rw [decide_eq_false_iff_not]; omega, Bool.false_eq_true, if_false]
  rw [grd_pos (by unfold okS; simp only [hlen]; simp; omega), grd_pos (by unfold okS; simp only [hlen]; simp; omega), grd_pos (by unfold okS; simp only [hlen]; simp; omega)]
  have hat : at_ (stE x ++ rest) 0 = some (B8i x.Kind) := by rw [e0]; rfl
  rw [hat, Option.bind_some, wrap64 (n := 9 + (x.Data.length : Int)) (by omega) (by omega), grd_pos (by unfold okS; simp only [hlen]; simp; omega), grd_pos (by unfold okS; simp only [hlen]; simp; omega)]
  have hn : (9 + (x.Data.length : Int)).toNat = (stE x).length := by rw [stE_len]; omega
  have s5 : slc (stE x ++ rest) (9 : Int).toNat (9 + (x.Data.length : Int)).toNat = x.Data := by
    rw [hn, slc_take, List.take_left]
    have : stE x = B8i x.Kind :: a1 :: a2 :: b1 :: b2 :: c1 :: c2 :: d1 :: d2 :: x.Data := by unfold stE; rw [ea, eb, ec, ed]; simp
    rw [this]
    rfl
  have s6 : slc (stE x ++ rest) (9 + (x.Data.length : Int)).toNat (stE x ++ rest).length = rest := by
    rw [hn, slc_take, List.take_length, List.drop_left]
  rw [s5, s6, Cat1_val (by omega), Option.bind_some, wrap64 (by omega) (by omega), wrap64 (by omega) (by omega), wrap64 (by omega) (by omega)]
  have hk : ((B8i x.Kind).toNat : Int) = x.Kind := by
    obtain ⟨m, hm⟩ := Int.eq_ofNat_of_zero_le k0
    rw [hm, B8i_nat]; omega
  have q1 : x.A + 32768 - 32768 = x.A := by omega
  have q2 : x.B + 32768 - 32768 = x.B := by omega
  have q3 : x.C + 32768 - 32768 = x.C := by omega
  rw [hk, q1, q2, q3]
/-- .. and of any octets. -/
theorem next_any (b : List UInt8) (hb : b.length ≤ 8192) : ∃ x rest ok, script_next b = some (x, rest, ok) ∧ (ok = true → okT x ∧ x.Data.length ≤ 1024 ∧ b = stE x ++ rest) := by
  by_cases h9 : b.length < 9
  · refine ⟨⟨0, 0, 0, 0, []⟩, [], false, ?_, by simp⟩
    unfold script_next
    rw [if_pos (decide_eq_true (by omega))]
  obtain ⟨k, b0, e0, hk⟩ : ∃ (k : UInt8) (b0 : List UInt8), b = k :: b0 ∧ 8 ≤ b0.length := by
    cases b with
    | nil => simp at h9
    | cons k b0 => exact ⟨k, b0, rfl, by simp at h9; omega⟩
  obtain ⟨a1, a2, b1, b2, c1, c2, d1, d2, t, rfl⟩ : ∃ a1 a2 b1 b2 c1 c2 d1 d2 t, b0 = a1 :: a2 :: b1 :: b2 :: c1 :: c2 :: d1 :: d2 :: t := by
    match b0, hk with
    | a1 :: a2 :: b1 :: b2 :: c1 :: c2 :: d1 :: d2 :: t, _ => exact ⟨a1, a2, b1, b2, c1, c2, d1, d2, t, rfl⟩
  have bd : ∀ p q : UInt8, bn [p, q] < 65536 := fun p q => by have := bn_lt [p, q]; simpa using this
  have eb2 : ∀ p q : UInt8, be (bn [p, q] : Int) 2 = [p, q] := fun p q => be_bn [p, q]
  by_cases hn : bn [d1, d2] ≤ 1024 ∧ bn [d1, d2] ≤ t.length
  · obtain ⟨x, hx⟩ : ∃ x : api_Step, x = ⟨(k.toNat : Int), (bn [a1, a2] : Int) - 32768, (bn [b1, b2] : Int) - 32768, (bn [c1, c2] : Int) - 32768, t.take (bn [d1, d2])⟩ := ⟨_, rfl⟩
    have hw : okT x := by
      subst hx
      have := b8 k; have := bd a1 a2; have := bd b1 b2; have := bd c1 c2
      exact ⟨by dsimp only; omega, by dsimp only; omega, ⟨by dsimp only; omega, by dsimp only; omega⟩, ⟨by dsimp only; omega, by dsimp only; omega⟩, ⟨by dsimp only; omega, by dsimp only; omega⟩⟩
    have hdl : x.Data.length = bn [d1, d2] := by subst hx; simp; omega
    have he : b = stE x ++ t.drop (bn [d1, d2]) := by
      unfold stE
      rw [hdl, eb2]
      subst hx
      dsimp only
      have q : ∀ p q : UInt8, (bn [p, q] : Int) - 32768 + 32768 = (bn [p, q] : Int) := fun _ _ => by omega
      rw [q, q, q, eb2, eb2, eb2, e0]
      have hk2 : B8i (k.toNat : Int) = k := by
        apply UInt8.toNat_inj.1
        rw [B8i_nat]; have := b8 k; omega
      rw [hk2]
      simp
    refine ⟨x, t.drop (bn [d1, d2]), true, ?_, fun _ => ⟨hw, by omega, he⟩⟩
    rw [he]
    refine next_enc hw (by omega) _ ?_
    rw [List.length_drop]
    rw [e0] at hb
    simp at hb
    omega
  · refine ⟨⟨0, 0, 0, 0, []⟩, [], false, ?_, by simp⟩
    have hlen : b.length = 9 + t.length := by rw [e0]; simp; omega
    unfold script_next thn
    dsimp only
    rw [if_neg (by rw [decide_eq_true_iff]; omega), grd_pos (by unfold okS; simp; omega)]
    have s1 : slc b (7 : Int).toNat (9 : Int).toNat = [d1, d2] := by rw [e0]; simp [slc]
    rw [s1, Int_val, Option.bind_some]
    have t2 : [d1, d2].take 7 = [d1, d2] := rfl
    have w1 : IntKind.i64.wrap ((b.length : Int) - 9) = (b.length : Int) - 9 := wrap64 (by omega) (by omega)
    by_cases h1 : (bn [d1, d2] : Int) > 1024
    · simp only [t2, w1, decide_eq_true h1, if_true]
    · simp only [t2, w1, show decide ((bn [d1, d2] : Int) > 1024) = false from decide_eq_false h1, show decide ((bn [d1, d2] : Int) > (b.length : Int) - 9) = true from decide_eq_true (by omega), Bool.false_eq_true, if_false, if_true]
theorem Read_any (b : List UInt8) : ∃ l e, script_Read b = some (l, e) ∧ (e ≠ 0 → l = []) ∧ (e = 0 → okS' l ∧ scE l = b) := by
  have key : Tt (script_Read b) (fun r => (r.2 ≠ 0 → r.1 = []) ∧ (r.2 = 0 → okS' r.1 ∧ scE r.1 = b)) := by
    unfold script_Read
    refine .ite (fun _ => .pure ⟨fun _ => rfl, fun h => by simp at h⟩) (fun hl => ?_)
    rw [decide_eq_false_iff_not] at hl
    refine Tt.loopW (fun n s => n = s.2.length ∧ (∀ x ∈ s.1, okT x) ∧ (∀ x ∈ s.1, x.Data.length ≤ 1024) ∧ scE s.1 ++ s.2 = b ∧ s.1.length ≤ b.length) (fun s => (∀ x ∈ s.1, okT x) ∧ (∀ x ∈ s.1, x.Data.length ≤ 1024) ∧ scE s.1 = b) b.length ⟨rfl, by simp, by simp, by simp [scE], by simp⟩ ?_ ?_
    · rintro n ⟨l, r⟩ ⟨rfl, h1, h2, h3, h4⟩
      dsimp only at *
      have hr : r.length ≤ 8192 := by have := congrArg List.length h3; simp at this; omega
      refine .ite (fun hp => ?_) (fun hp => ?_)
      · obtain ⟨x, rest, ok, hx, hok⟩ := next_any r hr
        rw [hx, Option.bind_some]
        refine .ite (fun _ => .map (.pure (Q := fun y => y = ([], 16)) rfl) fun _ h => by subst h; exact ⟨fun _ => rfl, fun h => by simp at h⟩) (fun ho => ?_)
        have ho' : ok = true := by simpa using ho
        obtain ⟨g1, g2, g3⟩ := hok ho'
        subst g3
        have hlen := congrArg List.length h3
        have hlx := stE_len x
        simp only [List.length_append] at hlen
        have hsc : 9 * l.length ≤ (scE l).length := by
          clear h1 h2 h3 h4 hlen
          induction l with
          | nil => simp
          | cons y l ih => have := stE_len y; simp [scE] at ih ⊢; omega
        refine .grd (by simp; omega) (.pure ⟨rest.length, by simp; omega, rfl, ?_, ?_, ?_, by simp; omega⟩)
        · intro y hy
          rcases List.mem_append.1 hy with h | h
          · exact h1 y h
          · simp at h; subst h; exact g1
        · intro y hy
          rcases List.mem_append.1 hy with h | h
          · exact h2 y h
          · simp at h; subst h; exact g2
        · dsimp only
          rw [scE_snoc, List.append_assoc]; exact h3
      · rw [decide_eq_false_iff_not] at hp
        have : r = [] := List.length_eq_zero_iff.1 (by omega)
        subst this
        exact .pure ⟨h1, h2, by simpa using h3⟩
    · rintro ⟨l, r⟩ ⟨h1, h2, h3⟩
      dsimp only at *
      refine .ite (fun _ => .pure ⟨fun _ => rfl, fun h => by simp at h⟩) (fun hn => .pure ⟨fun h => by simp at h, fun _ => ⟨⟨?_, h1, h2, ?_⟩, h3⟩⟩)
      · rw [decide_eq_false_iff_not] at hn; show l.length ≤ 512; omega
      · rw [h3]; omega
  obtain ⟨⟨l, e⟩, hr, h1, h2⟩ := key
  exact ⟨l, e, hr, h1, h2⟩
theorem stE_inj_pre {x y : api_Step} {r s : List UInt8} (hx : okT x) (hy : okT y) (dx : x.Data.length ≤ 1024) (dy : y.Data.length ≤ 1024) (hr : r.length ≤ 8192) (hs : s.length ≤ 8192) (e : stE x ++ r = stE y ++ s) : x = y ∧ r = s := by
  have h1 := next_enc hx dx r hr
  have h2 := next_enc hy dy s hs
  rw [e, h2] at h1
  simp only [Option.some.injEq, Prod.mk.injEq, and_true] at h1
  exact ⟨h1.1.symm, h1.2.symm⟩
theorem scE_inj : ∀ {l m : List api_Step}, okS' l → okS' m → scE l = scE m → l = m := by
  intro l
  induction l with
  | nil =>
    intro m _ _ e
    cases m with
    | nil => rfl
    | cons y m => have e1 := congrArg List.length e; have e2 := stE_len y; rw [show scE (y :: m) = stE y ++ scE m from by simp [scE], List.length_append, e2] at e1; have e3 : (scE ([] : List api_Step)).length = 0 := rfl; omega
  | cons x l ih =>
    intro m hl hm e
    cases m with
    | nil => have e1 := congrArg List.length e; have e2 := stE_len x; rw [show scE (x :: l) = stE x ++ scE l from by simp [scE], List.length_append, e2] at e1; simp [scE] at e1
    | cons y m =>
      have c1 : ∀ (z : api_Step) (k : List api_Step), scE (z :: k) = stE z ++ scE k := fun _ _ => by simp [scE]
      rw [c1, c1] at e
      have o1 := hl.o; have o2 := hm.o
      rw [c1, List.length_append] at o1 o2
      obtain ⟨rfl, e2⟩ := stE_inj_pre (hl.w x (by simp)) (hm.w y (by simp)) (hl.d x (by simp)) (hm.d y (by simp)) (by omega) (by omega) e
      rw [ih (m := m) ⟨by have := hl.n; simp at this; omega, fun z hz => hl.w z (by simp [hz]), fun z hz => hl.d z (by simp [hz]), by omega⟩ ⟨by have := hm.n; simp at this; omega, fun z hz => hm.w z (by simp [hz]), fun z hz => hm.d z (by simp [hz]), by omega⟩ e2]
theorem Read_enc {l : List api_Step} (h : okS' l) : script_Read (scE l) = some (l, 0) := by
  obtain ⟨m, e, hr, h1, h2⟩ := Read_any (scE l)
  by_cases he : e = 0
  · subst he
    obtain ⟨g1, g2⟩ := h2 rfl
    rw [hr, scE_inj g1 h g2]
  · exfalso
    -- what was put can be read
    have key : Tt (script_Read (scE l)) (fun r => r.2 = 0) := by
      unfold script_Read
      have ho := h.o
      refine .ite (fun hl => ?_) (fun _ => ?_)
      · rw [decide_eq_true_iff] at hl; omega
      refine Tt.loopW (fun n s => ∃ i, i ≤ l.length ∧ n = l.length - i ∧ s.1 = l.take i ∧ s.2 = scE (l.drop i)) (fun s => s.1 = l) l.length ⟨0, by omega, by omega, by simp, by simp⟩ ?_ ?_
      · rintro n ⟨p, r⟩ ⟨i, hi, rfl, rfl, rfl⟩
        dsimp only
        by_cases hil : i < l.length
        · have hx : l[i]? = some l[i] := List.getElem?_eq_getElem hil
          have hm : l[i] ∈ l := List.getElem_mem hil
          have hd : scE (l.drop i) = stE l[i] ++ scE (l.drop (i + 1)) := by rw [List.drop_eq_getElem_cons hil]; rfl
          have hle : (scE (l.drop i)).length ≤ 8192 := by
            have : scE l = scE (l.take i) ++ scE (l.drop i) := by unfold scE; rw [← List.flatten_append, ← List.map_append, List.take_append_drop]
            rw [this, List.length_append] at ho; omega
          have hle2 := hle
          rw [hd, List.length_append] at hle2
          have hlx := stE_len l[i]
          refine .ite (fun _ => ?_) (fun hb => ?_)
          · rw [hd, next_enc (h.w _ hm) (h.d _ hm) _ (by omega), Option.bind_some]
            refine .ite (fun hb => by simp at hb) (fun _ => ?_)
            have hn := h.n
            refine .grd (by simp; omega) (.pure ⟨l.length - (i + 1), by omega, i + 1, by omega, rfl, ?_, rfl⟩)
            rw [List.take_add_one, hx]; rfl
          · rw [decide_eq_false_iff_not] at hb
            rw [hd, List.length_append] at hb
            omega
        · have hi' : i = l.length := by omega
          subst hi'
          refine .ite (fun hb => ?_) (fun _ => .pure ?_)
          · simp [scE] at hb
          · simp [CtP]
      · rintro ⟨p, r⟩ hp
        dsimp only at hp
        subst hp
        have hn := h.n
        refine .ite (fun hb => ?_) (fun _ => .pure rfl)
        rw [decide_eq_true_iff] at hb; dsimp only at hb; omega
    obtain ⟨r, hr2, h3⟩ := key
    rw [hr] at hr2
    cases hr2
    exact he h3
theorem alive25 : narrowslaw25_alive = some true := by
  have hw : okS' [(⟨3, -1, 0, 0, []⟩ : api_Step)] := ⟨by decide, by intro x hx; simp at hx; subst hx; exact ⟨by decide, by decide, ⟨by decide, by decide⟩, ⟨by decide, by decide⟩, ⟨by decide, by decide⟩⟩, by intro x hx; simp at hx; subst hx; decide, by simp [scE, stE, be]⟩
  unfold narrowslaw25_alive
  rw [Put_ok hw, Option.bind_some, Read_enc hw, Option.bind_some]
  have : (scE [(⟨3, -1, 0, 0, []⟩ : api_Step)]).length = 9 := by simp [scE, stE, be]
  simp [this, at_]
end Go.Sl
