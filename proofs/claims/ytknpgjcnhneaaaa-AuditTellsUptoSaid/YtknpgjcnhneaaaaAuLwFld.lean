/- The reference's fields are the program's. -/
import Derived.Test.YtknpgjcnhneaaaaAuLwRef2
set_option linter.unusedVariables false
set_option linter.unusedSimpArgs false
namespace Go.Sl
structure FR (o : field_Out) (w : narrowsref06_W) : Prop where
  made : o.made = true
  e : o.e_ = w.E
  b : w.E = 0 → o.b = w.B
  nb : w.E ≠ 0 → w.B = []
  len : o.b.length ≤ 8192
theorem put_fr {o : field_Out} {w : narrowsref06_W} {b b' : List UInt8} {e : Int} (h : FR o w) (hb : b.length ≤ 2000000) (he : e = 0 → b' = b) : ∃ o' w', field_Out_put o b e = some o' ∧ narrowsref06_put w b' e = some w' ∧ FR o' w' := by
  have hl := h.len
  unfold field_Out_put narrowsref06_put thn
  rw [h.made, h.e]
  by_cases h1 : w.E = 0
  · have hB := h.b h1
    by_cases h2 : e = 0
    · have := he h2
      subst this
      have hlw : w.B.length ≤ 8192 := by rw [← hB]; exact hl
      simp only [h1, h2, hB, Bool.not_true, Bool.false_eq_true, if_false, ne_eq, not_true_eq_false, decide_false]
      rw [wrap64 (by omega) (by omega)]
      by_cases h3 : (w.B.length : Int) + (b'.length : Int) > 8192
      · rw [if_pos (decide_eq_true h3), if_pos (decide_eq_true h3)]
        exact ⟨_, _, rfl, rfl, ⟨rfl, rfl, fun h => by simp at h, fun _ => rfl, hlw⟩⟩
      · rw [if_neg (by simpa using h3), if_neg (by simpa using h3), grd_pos (by omega), rCat_val (by omega), Option.bind_some]
        exact ⟨_, _, rfl, rfl, ⟨rfl, rfl, fun _ => rfl, fun h => by simp at h, by simp; omega⟩⟩
    · simp only [h1, h2, Bool.not_true, Bool.false_eq_true, if_false, ne_eq, not_true_eq_false, decide_false, not_false_eq_true, decide_true, if_true]
      exact ⟨_, _, rfl, rfl, ⟨rfl, rfl, fun h => absurd h h2, fun _ => rfl, hl⟩⟩
  · simp only [h1, Bool.not_true, Bool.false_eq_true, if_false, ne_eq, not_false_eq_true, decide_true, if_true]
    exact ⟨_, _, rfl, rfl, h⟩
theorem Num_fr {o : field_Out} {w : narrowsref06_W} (n : Int) (h : FR o w) : ∃ o' w', field_Out_Num o n = some o' ∧ narrowsref06_Num w n = some w' ∧ FR o' w' := by
  have e6 : blob_Num n 6 = some (be n 6) := Num_val n (k := 6) (by omega)
  have r6 : narrowsref01_Num n 6 = some (be n 6) := rNum_val n (k := 6) (by omega)
  unfold field_Out_Num narrowsref06_Num
  simp only [thn]
  rw [e6, Option.bind_some, r6, Option.bind_some]
  by_cases hc : (if decide (n < 0) = true then true else decide (n > 1099511627776)) = true
  · rw [if_pos hc, if_pos hc]
    obtain ⟨o', w', h1, h2, h3⟩ := put_fr (b := be n 6) (b' := []) (e := 4) h (by rw [be_len]; omega) (fun h => by simp at h)
    rw [h1, h2]
    exact ⟨_, _, rfl, rfl, h3⟩
  · rw [if_neg hc, if_neg hc]
    obtain ⟨o', w', h1, h2, h3⟩ := put_fr (b := be n 6) (b' := be n 6) (e := 0) h (by rw [be_len]; omega) (fun _ => rfl)
    rw [h1, h2]
    exact ⟨_, _, rfl, rfl, h3⟩
theorem Text_fr {o : field_Out} {w : narrowsref06_W} {s : ByteArray} (hs : s.size ≤ 1048576) (h : FR o w) : ∃ o' w', field_Out_Text o s = some o' ∧ narrowsref06_Text w s = some w' ∧ FR o' w' := by
  have e2 : blob_Num (s.size : Int) 2 = some (be (s.size : Int) 2) := Num_val _ (k := 2) (by omega)
  have r2 : narrowsref01_Num (s.size : Int) 2 = some (be (s.size : Int) 2) := rNum_val _ (k := 2) (by omega)
  have hd := data_len s
  unfold field_Out_Text narrowsref06_Text
  simp only [thn]
  rw [e2, Option.bind_some, r2, Option.bind_some, grd_pos (by omega), grd_pos (by omega), Cat2_spec (by rw [be_len, hd]; omega), Option.bind_some, rCat_val (by rw [be_len, hd]; omega), Option.bind_some]
  by_cases hc : (s.size : Int) > 1024
  · rw [if_pos (decide_eq_true hc), if_pos (decide_eq_true hc)]
    obtain ⟨o', w', h1, h2, h3⟩ := put_fr (b := be (s.size : Int) 2 ++ s.data.toList) (b' := []) (e := 5) h (by rw [List.length_append, be_len, hd]; omega) (fun h => by simp at h)
    rw [h1, h2]
    exact ⟨_, _, rfl, rfl, h3⟩
  · rw [if_neg (by simpa using hc), if_neg (by simpa using hc)]
    obtain ⟨o', w', h1, h2, h3⟩ := put_fr (b := be (s.size : Int) 2 ++ s.data.toList) (b' := be (s.size : Int) 2 ++ s.data.toList) (e := 0) h (by rw [List.length_append, be_len, hd]; omega) (fun _ => rfl)
    rw [h1, h2]
    exact ⟨_, _, rfl, rfl, h3⟩
theorem New_fr : FR field_New (⟨[], 0⟩ : narrowsref06_W) := by unfold field_New; exact ⟨rfl, rfl, fun _ => rfl, fun _ => rfl, by simp⟩
theorem Done_fr {o : field_Out} {w : narrowsref06_W} (h : FR o w) : field_Out_Done o = some (w.B, w.E) ∧ w.B.length ≤ 8192 := by
  unfold field_Out_Done
  have hl := h.len
  rw [h.made, h.e]
  by_cases h1 : w.E = 0
  · have hB := h.b h1
    rw [if_neg (by simp), if_neg (by simpa using h1), Cat1_val (by omega), Option.bind_some, hB, h1]
    exact ⟨rfl, by rw [← hB]; exact hl⟩
  · rw [if_neg (by simp), if_pos (by simpa using h1), h.nb h1]
    exact ⟨rfl, by simp⟩
theorem Put_fr {o : field_Out} {w : narrowsref06_W} {i : api_Inv} (h1 : i.Root.size ≤ 1048576) (h2 : i.Id.size ≤ 1048576) (h : FR o w) : ∃ o' w', deal_Put o i = some o' ∧ narrowsref06_PutInv w i = some w' ∧ FR o' w' := by
  unfold deal_Put narrowsref06_PutInv
  obtain ⟨o1, w1, p1, q1, k1⟩ := Text_fr (s := ⟨#[105, 110, 118]⟩) (by decide) h
  obtain ⟨o2, w2, p2, q2, k2⟩ := Num_fr i.User k1
  obtain ⟨o3, w3, p3, q3, k3⟩ := Text_fr h1 k2
  obtain ⟨o4, w4, p4, q4, k4⟩ := Num_fr i.Router k3
  obtain ⟨o5, w5, p5, q5, k5⟩ := Num_fr i.Send k4
  obtain ⟨o6, w6, p6, q6, k6⟩ := Num_fr i.Recv k5
  obtain ⟨o7, w7, p7, q7, k7⟩ := Num_fr i.To k6
  obtain ⟨o8, w8, p8, q8, k8⟩ := Text_fr h2 k7
  simp only [p1, p2, p3, p4, p5, p6, p7, p8, q1, q2, q3, q4, q5, q6, q7, q8, Option.bind_some]
  exact ⟨_, _, rfl, rfl, k8⟩
theorem Inv_eq (i : api_Inv) : narrowsref06_Inv i = deal_Check i := by
  unfold narrowsref06_Inv deal_Check deal_in
  simp only [thn]
  congr 1
  have key : ∀ p : Bool, ∀ q : Bool, (p = true ↔ q = true) → (p = true) = (q = true) := fun _ _ h => propext h
  apply key
  simp
  omega
theorem Key_eq (i : api_Inv) : ∃ k, deal_Key i = some k ∧ narrowsref06_Key i = some k ∧ k.size ≤ 32 := by
  obtain ⟨k, hk, hs⟩ := Key_spec i
  refine ⟨k, hk, ?_, hs⟩
  unfold deal_Key at hk
  unfold narrowsref06_Key
  rw [Inv_eq]
  by_cases h : deal_Check i = 0
  · rw [if_neg (by simpa using h)] at hk ⊢
    obtain ⟨h1, h2⟩ := Check_ok h
    obtain ⟨o, w, p, q, hf⟩ := Put_fr (i := i) (by omega) (by omega) New_fr
    obtain ⟨hd, hl⟩ := Done_fr hf
    have hw : ∀ {w : narrowsref06_W}, w.B.length ≤ 8192 → hash_Text_n1 w.B = some (⟨⟨Sm w.B⟩⟩ : ByteArray) := fun {w} hl => by
      unfold hash_Text_n1
      rw [Cat1_val (by omega), Option.bind_some, (Sm_val (by omega)).1]
      rfl
    rw [p, Option.bind_some, hd, Option.bind_some, hw hl, Option.bind_some] at hk
    rw [q, Option.bind_some, (Sm_val (by omega)).2.1, Option.bind_some]
    exact hk
  · rw [if_pos (by simpa using h)] at hk ⊢
    exact hk
end Go.Sl
