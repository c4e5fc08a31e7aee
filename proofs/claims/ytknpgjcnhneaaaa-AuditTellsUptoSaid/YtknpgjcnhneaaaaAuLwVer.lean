/- Verify is the reference's. -/
import Derived.Test.YtknpgjcnhneaaaaAuLwOpn
set_option linter.unusedVariables false
set_option linter.unusedSimpArgs false
namespace Go.Sl
def cutf (a : List UInt8) (i : Nat) : List UInt8 := slc a (8 * i) (8 * i + 8)
theorem Cut_val {a : List UInt8} {n : Nat} (h : a.length = 8 * n) (hn : n ≤ 100000) : blob_Cut a 8 = some ((List.range n).map (cutf a)) := by
  have key : Tt (blob_Cut a 8) (fun r => r = (List.range n).map (cutf a)) := by
    unfold blob_Cut slices_Chunk_byte
    refine Tt.thn ?_
    simp only [show decide ((8 : Int) < 1) = false from rfl, Bool.false_eq_true, if_false, Option.bind_some]
    refine Tt.loopW (fun k s => ∃ i : Nat, s.1 = ((8 * i : Nat) : Int) ∧ i ≤ n ∧ k = n - i ∧ s.2 = (List.range i).map (cutf a)) (fun s => s.2 = (List.range n).map (cutf a)) n ⟨0, rfl, by omega, by omega, rfl⟩ ?_ fun s hs => .pure hs
    rintro k ⟨m, l⟩ ⟨i, rfl, hi, rfl, hl⟩
    dsimp only at *
    subst hl
    refine .ite (fun hp => ?_) (fun hp => .pure ?_)
    · rw [decide_eq_true_iff] at hp
      have hlt : i < n := by omega
      have hsl : (slc a (((8 * i : Nat) : Int)).toNat a.length).length = a.length - 8 * i := by simp [slc]; omega
      have hge : ¬ (((slc a (((8 * i : Nat) : Int)).toNat a.length).length : Int) < 8) := by rw [hsl]; omega
      rw [if_neg hge, wrap64 (n := ((8 * i : Nat) : Int) + 8) (by omega) (by omega)]
      refine .grd (by unfold okS; simp; omega) (.grd (by unfold okS; simp; omega) ?_)
      unfold slices_Clone_byte
      have e1 : (((8 * i : Nat) : Int)).toNat = 8 * i := by omega
      have e2 : (((8 * i : Nat) : Int) + 8).toNat = 8 * i + 8 := by omega
      rw [e1, e2]
      have hs2 : (slc a (8 * i) (8 * i + 8)).length = 8 := by simp [slc]; omega
      rw [grd_pos (by rw [hs2]; simp), Option.bind_some]
      refine .grd (by simp; omega) (.pure ⟨n - (i + 1), by omega, i + 1, by dsimp only; omega, by omega, rfl, ?_⟩)
      dsimp only
      rw [List.range_succ, List.map_append]
      rfl
    · rw [decide_eq_false_iff_not] at hp
      have hlt : i = n := by omega
      subst hlt; rfl
  obtain ⟨r, hr, rfl⟩ := key
  exact hr
theorem band1v {n : Nat} (h : n < 1000) : bandK .i64 (n : Int) 1 = ((n % 2 : Nat) : Int) := by
  have e0 : bandK .i64 (n : Int) 1 = IntKind.i64.wrap (((BitVec.ofNat 64 n &&& BitVec.ofNat 64 1).toNat : Nat) : Int) := rfl
  have e3 : (BitVec.ofNat 64 n &&& BitVec.ofNat 64 1).toNat = n % 2 := by
    rw [BitVec.toNat_and, BitVec.toNat_ofNat, BitVec.toNat_ofNat]
    have : n % 2 ^ 64 = n := Nat.mod_eq_of_lt (by omega)
    rw [this]
    exact Nat.and_two_pow_sub_one_eq_mod n 1
  rw [e0, e3, wrap64 (by omega) (by omega)]
theorem shr1 {n : Nat} : shrK .i64 (n : Int) 1 = ((n / 2 : Nat) : Int) := by
  unfold shrK
  have : (2 : Int) ^ (min (1 : Int).toNat IntKind.i64.bits) = 2 := by decide
  rw [this, Int.fdiv_eq_ediv_of_nonneg _ (by decide)]
  omega
/-- One step on the way up. -/
noncomputable def cst (s : ByteArray) (n : Nat) (p : List UInt8) : ByteArray := if n % 2 = 0 then Sh (s.data.toList ++ p) else Sh (p ++ s.data.toList)
noncomputable def stc (r : ByteArray) (n : Nat) (f : Nat → List UInt8) : Nat → ByteArray × Nat
  | 0 => (r, n)
  | i + 1 => (cst (stc r n f i).1 (stc r n f i).2 (f (15 + i)), (stc r n f i).2 / 2)
theorem cst_size {s : ByteArray} {n : Nat} {p : List UInt8} (hs : s.size = 8) (hp : p.length = 8) : (cst s n p).size = 8 := by
  unfold cst
  split <;> exact Sh_size (by rw [List.length_append, data_len]; omega)
theorem stc_size {r : ByteArray} {n : Nat} {f : Nat → List UInt8} (hr : r.size = 8) (hf : ∀ i, 15 ≤ i → i < 18 → (f i).length = 8) : ∀ i, i ≤ 3 → (stc r n f i).1.size = 8
  | 0, _ => hr
  | i + 1, h => by rw [stc]; exact cst_size (stc_size hr hf i (by omega)) (hf _ (by omega) (by omega))
theorem stc_le {r : ByteArray} {n : Nat} {f : Nat → List UInt8} (hn : n < 8) : ∀ i, (stc r n f i).2 < 8
  | 0 => hn
  | i + 1 => by have := stc_le (r := r) (f := f) hn i; rw [stc]; dsimp only; omega
theorem climb_val {r : ByteArray} {n : Nat} {f : Nat → List UInt8} (hr : r.size = 8) (hn : n < 8) (hf : ∀ i, 15 ≤ i → i < 18 → (f i).length = 8) : mss_climb r (n : Int) [f 15, f 16, f 17] = some (stc r n f 3).1 := by
  have key : Tt (mss_climb r (n : Int) [f 15, f 16, f 17]) (fun x => x = (stc r n f 3).1) := by
    unfold mss_climb
    refine Tt.loopR (fun i s => s.1 = (stc r n f i).1 ∧ s.2 = ((stc r n f i).2 : Int)) ⟨rfl, rfl⟩ ?_ ?_
    · rintro i x ⟨s, m⟩ hx ⟨hs, hm⟩
      dsimp only at *
      subst hs hm
      have hi : i < 3 := (List.getElem?_eq_some_iff.1 hx).1
      have hxf : x = f (15 + i) := by
        match i, hi with
        | 0, _ => simpa using hx.symm
        | 1, _ => simpa using hx.symm
        | 2, _ => simpa using hx.symm
      subst hxf
      have hz := stc_size (n := n) hr hf i (by omega)
      have hle := stc_le (r := r) (f := f) hn i
      have h8 : ((⟨⟨f (15 + i)⟩⟩ : ByteArray)).size = 8 := hf _ (by omega) (by omega)
      rw [band1v (by omega), shr1]
      refine .bind (P := fun y => y = cst (stc r n f i).1 (stc r n f i).2 (f (15 + i))) (.ite (fun hp => ?_) fun hp => ?_) fun y hy => .pure ⟨hy, rfl⟩
      · rw [decide_eq_true_iff] at hp
        rw [join_val (by omega) (by omega)]
        refine .pure ?_
        unfold cst; rw [if_pos (by omega)]
      · rw [decide_eq_false_iff_not] at hp
        rw [join_val (by omega) (by omega)]
        refine .pure ?_
        unfold cst; rw [if_neg (by omega)]
    · rintro ⟨s, m⟩ ⟨hs, hm⟩
      exact .pure hs
  obtain ⟨x, hx, rfl⟩ := key
  exact hx
end Go.Sl
