/- Verify is the reference's: joined. -/
import Derived.Test.YtknpgjcnhneaaaaAuLwVer
set_option linter.unusedVariables false
set_option linter.unusedSimpArgs false
namespace Go.Sl
def B8a (l : List UInt8) : ByteArray := ⟨⟨l⟩⟩
theorem ext_cut {sig : ByteArray} {i : Nat} (h : sig.size = 145) (hi : i < 18) : sig.extract (1 + 8 * i) (9 + 8 * i) = B8a (cutf ((sig.extract 1 145).data.toList) i) := by
  have key : (sig.extract (1 + 8 * i) (9 + 8 * i)).data.toList = cutf ((sig.extract 1 145).data.toList) i := by
    unfold cutf slc
    rw [ByteArray.data_extract, ByteArray.data_extract, Array.toList_extract, Array.toList_extract]
    simp only [List.extract_eq_take_drop, List.take_take, List.drop_take, List.drop_drop]
    congr 1
    omega
  unfold B8a
  rw [← key]
theorem cut_len {b : List UInt8} (h : b.length = 144) {i : Nat} (hi : i < 18) : (cutf b i).length = 8 := by unfold cutf slc; simp; omega
theorem leaf_tot (sig : ByteArray) : ∃ n, mss_Leaf sig = some n := by
  unfold mss_Leaf
  by_cases h : sig = ⟨#[]⟩
  · rw [if_pos (decide_eq_true h)]; exact ⟨_, rfl⟩
  · rw [if_neg (by simpa using h)]
    have hpos : 0 < sig.size := by
      refine Nat.pos_of_ne_zero fun e => h ?_
      have : sig.data.size = 0 := e
      cases sig with
      | mk d => congr 1; exact Array.eq_empty_of_size_eq_zero this
    obtain ⟨x, hx⟩ := bat_some hpos
    rw [hx]
    exact ⟨_, rfl⟩
theorem leaf_val {sig : ByteArray} {x : UInt8} (h : sig.size = 145) (hx : bat sig 0 = some x) : mss_Leaf sig = some (x.toNat : Int) := by
  unfold mss_Leaf
  rw [if_neg, hx]
  · rfl
  · rw [decide_eq_true_iff]
    rintro rfl
    exact absurd h (by decide)
theorem up {y : ByteArray} {n i : Nat} {f : Nat → List UInt8} {r : ByteArray} (hr : r.size = 8) (hf : ∀ i, 15 ≤ i → i < 18 → (f i).length = 8) (hi : i < 3) (hy : y = (stc r n f i).1) {m : Int} (hm : m = ((stc r n f i).2 : Int)) {l : List ByteArray} (hl : l[15 + i]? = some (B8a (f (15 + i)))) {j : Int} (hj : j = ((15 + i : Nat) : Int)) :
    Tt (if (decide ((Int.tmod m 2) = 0)) = true then (Option.bind (at_ l j) fun (x44 : ByteArray) => grd (y.size + x44.size ≤ 9223372036854775807) <| Option.bind (narrowsref01_Short (y ++ x44)) fun r49 => some r49) else (Option.bind (at_ l j) fun (x54 : ByteArray) => grd (x54.size + y.size ≤ 9223372036854775807) <| Option.bind (narrowsref01_Short (x54 ++ y)) fun r59 => some r59)) (fun z => z = (stc r n f (i + 1)).1) := by
  subst hy hm hj
  have hz := stc_size (n := n) hr hf i (by omega)
  have h8 : (B8a (f (15 + i))).size = 8 := hf _ (by omega) (by omega)
  have ht : Int.tmod ((stc r n f i).2 : Int) 2 = (((stc r n f i).2 % 2 : Nat) : Int) := rfl
  rw [ht, at_nat, hl]
  simp only [Option.bind_some]
  refine .ite (fun hp => ?_) fun hp => ?_
  · rw [decide_eq_true_iff] at hp
    refine .grd (by omega) ?_
    rw [rShort_val (by rw [ByteArray.size_append]; omega), Option.bind_some]
    refine .pure ?_
    rw [stc]
    unfold cst
    rw [if_pos (by omega)]
    simp [ByteArray.data_append, B8a]
  · rw [decide_eq_false_iff_not] at hp
    refine .grd (by omega) ?_
    rw [rShort_val (by rw [ByteArray.size_append]; omega), Option.bind_some]
    refine .pure ?_
    rw [stc]
    unfold cst
    rw [if_neg (by omega)]
    simp [ByteArray.data_append, B8a]
theorem Verify_eq (root : ByteArray) {t : List UInt8} (sig : ByteArray) (ht : t.length ≤ 1099511627776) : ∃ r, mss_Verify root t sig = some r ∧ narrowsref04_Verify root t sig = some r := by
  by_cases h145 : sig.size = 145
  case neg =>
    obtain ⟨n, hn⟩ := leaf_tot sig
    have e : decide ((sig.size : Int) ≠ 145) = true := decide_eq_true (by omega)
    refine ⟨(0, false), ?_, ?_⟩
    · unfold mss_Verify
      rw [hn, Option.bind_some]
      simp only [e, thn, if_true]
    · unfold narrowsref04_Verify
      simp only [e, if_true, Option.bind_some]
  case pos =>
    obtain ⟨x, hx⟩ := bat_some (z := sig) (by omega)
    have e : decide ((sig.size : Int) ≠ 145) = false := by rw [h145]; rfl
    have hx8 := b8 x
    have hgt : decide (x > 7) = decide ((x.toNat : Int) ≥ 8) := by
      have : x > 7 ↔ (7 : UInt8).toNat < x.toNat := UInt8.lt_iff_toNat_lt
      have h7 : (7 : UInt8).toNat = 7 := rfl
      rw [h7] at this
      exact decide_eq_decide.2 ⟨fun h => by have := this.1 h; omega, fun h => this.2 (by omega)⟩
    by_cases hc : (x.toNat : Int) ≥ 8
    · refine ⟨(0, false), ?_, ?_⟩
      · unfold mss_Verify
        rw [leaf_val h145 hx, Option.bind_some]
        simp only [e, thn, Bool.false_eq_true, if_false]
        rw [if_pos (decide_eq_true hc)]
      · unfold narrowsref04_Verify
        simp only [e, Bool.false_eq_true, if_false, hx, Option.bind_some, hgt]
        rw [if_pos (decide_eq_true hc)]
    · obtain ⟨b, hb⟩ : ∃ b, (sig.extract 1 145).data.toList = b := ⟨_, rfl⟩
      have hbl : b.length = 144 := by rw [← hb, data_len, ByteArray.size_extract, h145]; rfl
      have hf : ∀ i, 15 ≤ i → i < 18 → (cutf b i).length = 8 := fun i _ hi => cut_len hbl hi
      obtain ⟨r, ho1, ho2, hr8⟩ := Open_eq (t := t) (ps := (List.range 15).map fun i => B8a (cutf b i)) ht (by simp) (fun p hp => by
        obtain ⟨i, hi, rfl⟩ := List.mem_map.1 hp
        exact cut_len hbl (by have := List.mem_range.1 hi; omega))
      refine ⟨if (decide ((stc r x.toNat (cutf b) 3).1 ≠ root)) = true then (0, false) else ((x.toNat : Int), true), ?_, ?_⟩
      · have key : Tt (mss_Verify root t sig) (fun z => z = if (decide ((stc r x.toNat (cutf b) 3).1 ≠ root)) = true then (0, false) else ((x.toNat : Int), true)) := by
          unfold mss_Verify
          rw [leaf_val h145 hx, Option.bind_some]
          simp only [e, thn, Bool.false_eq_true, if_false]
          rw [if_neg (by simpa using hc)]
          refine .grd (by unfold okS; simp; omega) (.grd (by rw [ByteArray.size_extract]; omega) ?_)
          have e1 : sig.extract (1 : Int).toNat sig.size = sig.extract 1 145 := by rw [h145]; rfl
          rw [e1, hb, Cut_val (n := 18) hbl (by omega), Option.bind_some]
          refine .grd (by unfold okS; simp) ?_
          have s1 : slc ((List.range 18).map (cutf b)) 0 (15 : Int).toNat = (List.range 15).map (cutf b) := rfl
          have s2 : slc ((List.range 18).map (cutf b)) (15 : Int).toNat ((List.range 18).map (cutf b)).length = [cutf b 15, cutf b 16, cutf b 17] := rfl
          rw [s1, s2]
          refine Tt.loopR (fun i s => s = (((List.range 15).map (cutf b)).take i).map B8a) rfl ?_ ?_
          · rintro i y s hy rfl
            have hi : i < 15 := by have := (List.getElem?_eq_some_iff.1 hy).1; simpa using this
            refine .grd (by simp; omega) (.pure ?_)
            have hk : ((List.range 15).map (cutf b)).take (i + 1) = ((List.range 15).map (cutf b)).take i ++ [y] := by rw [List.take_add_one, hy]; rfl
            rw [hk, List.map_append]
            rfl
          · rintro s rfl
            rw [List.take_length, List.map_map]
            refine .grd (by unfold okS; simp) ?_
            have e2 : ((List.range 15).map (B8a ∘ cutf b)) = (List.range 15).map fun i => B8a (cutf b i) := rfl
            rw [e2, ho1, Option.bind_some, climb_val hr8 (by omega) hf, Option.bind_some]
            split
            · exact .pure rfl
            · exact .pure rfl
        obtain ⟨z, hz, rfl⟩ := key
        exact hz
      · have key : Tt (narrowsref04_Verify root t sig) (fun z => z = if (decide ((stc r x.toNat (cutf b) 3).1 ≠ root)) = true then (0, false) else ((x.toNat : Int), true)) := by
          unfold narrowsref04_Verify
          simp only [e, Bool.false_eq_true, if_false, hx, Option.bind_some, hgt]
          rw [if_neg (by simpa using hc)]
          refine Tt.loopW (fun k s => ∃ i : Nat, s.1 = i ∧ i ≤ 18 ∧ k = 18 - i ∧ s.2 = (List.range i).map fun i => B8a (cutf b i)) (fun s => s.2 = (List.range 18).map fun i => B8a (cutf b i)) 18 ⟨0, rfl, by omega, rfl, rfl⟩ ?_ ?_
          · rintro k ⟨m, l⟩ ⟨i, rfl, hi, rfl, hl⟩
            dsimp only at *
            subst hl
            refine .ite (fun hp => ?_) (fun hp => .pure ?_)
            · rw [decide_eq_true_iff] at hp
              rw [wrap64 (n := 8 * (i : Int)) (by omega) (by omega), wrap64 (n := 1 + 8 * (i : Int)) (by omega) (by omega), wrap64 (n := 9 + 8 * (i : Int)) (by omega) (by omega)]
              have t1 : (1 + 8 * (i : Int)).toNat = 1 + 8 * i := by omega
              have t2 : (9 + 8 * (i : Int)).toNat = 9 + 8 * i := by omega
              rw [t1, t2, ext_cut h145 (by omega), hb]
              refine .grd (by unfold okS; simp; omega) (.grd (by simp; omega) (.pure ⟨18 - (i + 1), by omega, i + 1, by dsimp only; rw [wrap64 (by omega) (by omega)]; rfl, by omega, rfl, ?_⟩))
              dsimp only
              rw [List.range_succ, List.map_append]
              rfl
            · rw [decide_eq_false_iff_not] at hp
              have : i = 18 := by omega
              subst this; rfl
          · rintro ⟨m, l⟩ hl
            dsimp only at *
            subst hl
            refine .grd (by unfold okS; simp) ?_
            have s1 : slc ((List.range 18).map fun i => B8a (cutf b i)) 0 (15 : Int).toNat = (List.range 15).map fun i => B8a (cutf b i) := rfl
            rw [s1, ho2, Option.bind_some]
            have hn : x.toNat < 8 := by omega
            have q : ∀ k : Nat, IntKind.i64.wrap (Int.tdiv ((stc r x.toNat (cutf b) k).2 : Int) 2) = ((stc r x.toNat (cutf b) (k + 1)).2 : Int) := fun k => by
              have h1 := stc_le (r := r) (f := cutf b) hn k
              have h2 : Int.tdiv ((stc r x.toNat (cutf b) k).2 : Int) 2 = (((stc r x.toNat (cutf b) k).2 / 2 : Nat) : Int) := rfl
              rw [h2, wrap64 (by omega) (by omega)]
              rfl
            have q0 : IntKind.i64.wrap (Int.tdiv (x.toNat : Int) 2) = ((stc r x.toNat (cutf b) 1).2 : Int) := q 0
            rw [q0, q 1]
            refine .bind (up (i := 0) hr8 hf (by omega) rfl rfl rfl rfl) fun y1 h1 => ?_
            refine .bind (up (i := 1) hr8 hf (by omega) h1 rfl rfl rfl) fun y2 h2 => ?_
            refine .bind (up (i := 2) hr8 hf (by omega) h2 rfl rfl rfl) fun y3 h3 => ?_
            have hfin : y3 = (stc r x.toNat (cutf b) 3).1 := h3
            clear h3
            rw [hfin]
            generalize (stc r x.toNat (cutf b) 3).1 = z3
            by_cases hroot : z3 = root
            · have hd : decide (z3 ≠ root) = false := by simp [hroot]
              simp only [hd, Bool.false_eq_true, if_false]
              exact .pure rfl
            · have hd : decide (z3 ≠ root) = true := by simp [hroot]
              simp only [hd, if_true]
              exact .pure rfl
        obtain ⟨z, hz, rfl⟩ := key
        exact hz
end Go.Sl
