/- What signatures open is the same in the reference. -/
import Derived.Test.YtknpgjcnhneaaaaAuLwFld2
set_option linter.unusedVariables false
set_option linter.unusedSimpArgs false
namespace Go.Sl
noncomputable def wv (q : ByteArray × Int) : List UInt8 := (wk q.1 (cl3 (IntKind.i64.wrap (3 - q.2)))).data.toList
noncomputable def wl (ps : List ByteArray) (d : List Int) (i : Nat) : List (List UInt8) := ((ps.zip d).take i).map wv
theorem wl_succ {ps : List ByteArray} {d : List Int} {i : Nat} {p : ByteArray} {n : Int} (hp : ps[i]? = some p) (hn : d[i]? = some n) : wl ps d (i + 1) = wl ps d i ++ [wv (p, n)] := by
  unfold wl
  have : (ps.zip d)[i]? = some (p, n) := by rw [List.getElem?_zip_eq_some]; exact ⟨hp, hn⟩
  rw [List.take_add_one, this]
  simp
theorem wv_len {p : ByteArray} {n : Int} (h : p.size = 8) : (wv (p, n)).length = 8 := by unfold wv; rw [data_len]; exact wk_size h _
theorem wl_flat {ps : List ByteArray} {d : List Int} (h : ∀ p ∈ ps, p.size = 8) (i : Nat) : (wl ps d i).flatten.length = 8 * (wl ps d i).length := by
  apply flat8
  intro x hx
  unfold wl at hx
  obtain ⟨⟨p, n⟩, hq, rfl⟩ := List.mem_map.1 hx
  exact wv_len (h p (List.of_mem_zip (List.mem_of_mem_take hq)).1)
theorem wl_len {ps : List ByteArray} {d : List Int} (i : Nat) : (wl ps d i).length ≤ i := by unfold wl; simp; omega
theorem odd8_no {ps : List ByteArray} (h : ∀ p ∈ ps, p.size = 8) : slices_ContainsFunc_string_ots_Open_1 ps = some false := by
  have key : Tt (slices_ContainsFunc_string_ots_Open_1 ps) (fun r => r = false) := by
    unfold slices_ContainsFunc_string_ots_Open_1 slices_IndexFunc_string_ots_Open_1
    refine .bind (P := fun r : Int => r = -1) ?_ fun r hr => .pure (by rw [hr]; rfl)
    refine Tt.loopR (fun _ _ => True) trivial (fun i x s hx _ => ?_) fun _ _ => .pure rfl
    have h8 := h x (List.mem_of_getElem? hx)
    have : ots_Open_1 x = false := by unfold ots_Open_1; rw [h8]; rfl
    rw [this]
    exact .pure trivial
  obtain ⟨r, hr, rfl⟩ := key
  exact hr
theorem Open_eq {t : List UInt8} {ps : List ByteArray} (ht : t.length ≤ 1099511627776) (h15 : ps.length = 15) (h : ∀ p ∈ ps, p.size = 8) : ∃ r, ots_Open t ps = some r ∧ narrowsref04_Open t ps = some r ∧ r.size = 8 := by
  obtain ⟨d, hd, h1, h2⟩ := Digits_val ht
  have hfl := wl_flat (d := d) h
  have hle := fun i => wl_len (ps := ps) (d := d) i
  refine ⟨Sh (wl ps d 15).flatten, ?_, ?_, Sh_size (by have := hfl 15; have := hle 15; omega)⟩
  · have key : Tt (ots_Open t ps) (fun r => r = Sh (wl ps d 15).flatten) := by
      unfold ots_Open
      rw [odd8_no h, Option.bind_some]
      have e : decide ((ps.length : Int) ≠ 15) = false := by rw [h15]; rfl
      simp only [e, thn, Bool.false_eq_true, if_false]
      rw [h1, Option.bind_some]
      refine .bind (P := fun r => r = Sh (wl ps d 15).flatten) ?_ fun r hr => .pure hr
      unfold ots_closed
      refine Tt.loopR (fun i s => s = wl ps d i) (by simp [wl]) ?_ ?_
      · rintro i p s hx rfl
        have hi : i < ps.length := (List.getElem?_eq_some_iff.1 hx).1
        obtain ⟨n, hn⟩ : ∃ n, d[i]? = some n := ⟨_, List.getElem?_eq_getElem (by omega)⟩
        have h8 := h p (List.mem_of_getElem? hx)
        have hz := wk_size h8 (cl3 (IntKind.i64.wrap (3 - n)))
        have := hle i
        rw [at_nat, hn, Option.bind_some, Walk_val h8, Option.bind_some]
        refine .grd (by omega) (.grd (by simp; omega) (.pure ?_))
        rw [wl_succ hx hn]
        rfl
      · rintro s rfl
        rw [h15, ShortL_val (by have := hfl 15; have := hle 15; omega)]
        exact .pure rfl
    obtain ⟨r, hr, rfl⟩ := key
    exact hr
  · have key : Tt (narrowsref04_Open t ps) (fun r => r = Sh (wl ps d 15).flatten) := by
      unfold narrowsref04_Open
      have e : decide ((ps.length : Int) ≠ 15) = false := by rw [h15]; rfl
      rw [e, if_neg (by simp), h2, Option.bind_some]
      refine Tt.loopW (fun k s => ∃ i : Nat, s.1 = i ∧ i ≤ 15 ∧ k = 15 - i ∧ s.2.data.toList = (wl ps d i).flatten) (fun s => s.2.data.toList = (wl ps d 15).flatten) 15 ⟨0, rfl, by omega, rfl, by simp [wl]⟩ ?_ ?_
      · rintro k ⟨i0, a⟩ ⟨i, rfl, hi, rfl, ha⟩
        dsimp only at *
        refine .ite (fun hp => ?_) (fun hp => .pure ?_)
        · rw [decide_eq_true_iff] at hp
          obtain ⟨p, hx⟩ : ∃ p, ps[i]? = some p := ⟨_, List.getElem?_eq_getElem (by omega)⟩
          obtain ⟨n, hn⟩ : ∃ n, d[i]? = some n := ⟨_, List.getElem?_eq_getElem (by omega)⟩
          have h8 := h p (List.mem_of_getElem? hx)
          have e8 : decide ((p.size : Int) ≠ 8) = false := by rw [h8]; rfl
          have hz := wk_size h8 (cl3 (IntKind.i64.wrap (3 - n)))
          have hsz : a.size = (wl ps d i).flatten.length := by rw [← ha, data_len]
          have := hfl i; have := hle i
          simp only [at_nat, hx, hn, Option.bind_some, e8, Bool.false_eq_true, if_false]
          rw [rWalk_val h8, Option.bind_some]
          refine .grd (by omega) (.pure ⟨15 - (i + 1), by omega, i + 1, by dsimp only; rw [wrap64 (by omega) (by omega)]; rfl, by omega, rfl, ?_⟩)
          dsimp only
          rw [wl_succ hx hn, List.flatten_append, ← ha]
          simp [wv, ByteArray.data_append]
        · rw [decide_eq_false_iff_not] at hp
          have : i = 15 := by omega
          subst this; exact ha
      · rintro ⟨i0, a⟩ ha
        dsimp only at *
        have hsz : a.size = (wl ps d 15).flatten.length := by rw [← ha, data_len]
        have := hfl 15; have := hle 15
        rw [rShort_val (by omega), ha]
        exact .pure rfl
    obtain ⟨r, hr, rfl⟩ := key
    exact hr
end Go.Sl
