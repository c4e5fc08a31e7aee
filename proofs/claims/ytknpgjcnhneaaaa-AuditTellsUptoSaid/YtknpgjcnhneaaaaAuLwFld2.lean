/- The reference's wide numbers and payloads are the program's. -/
import Derived.Test.YtknpgjcnhneaaaaAuLwFld
set_option linter.unusedVariables false
set_option linter.unusedSimpArgs false
namespace Go.Sl
/-- A word's octets, the highest first, so many of them. -/
def wbs (x : UInt64) : Nat → List UInt8
  | 0 => []
  | k + 1 => wbs x k ++ [B8i ((rshU x (56 - 8 * (k : Int))).toNat : Int)]
theorem wbs_len (x : UInt64) : ∀ k, (wbs x k).length = k
  | 0 => rfl
  | k + 1 => by simp [wbs, wbs_len x k]
theorem wloopV {Q : List UInt8 → Prop} {k : Int × List UInt8 → Option (List UInt8)} (x : UInt64) (l0 : List UInt8) (h : l0.length ≤ 1000) (fin : ∀ s : Int × List UInt8, s.2 = l0 ++ wbs x 8 → Tt (k s) Q) :
    Tt (Option.bind (loopW (fun (s12 : Int × (List UInt8)) => if (decide (s12.1 ≥ 0)) = true then (grd (0 ≤ s12.1) <| grd ((s12.2.length + ([B8i ((rshU x s12.1).toNat : Int)] : List UInt8).length) * 1 ≤ 140737488355328) <| some (.nx ((IntKind.i64.wrap (s12.1 - 8), (s12.2 ++ ([B8i ((rshU x s12.1).toNat : Int)] : List UInt8)))))) else (some (.br (s12.1, s12.2)))) (56, l0)) fun o14 => Lo.on o14 k) Q := by
  refine Tt.loopW (fun j s => ∃ i : Nat, s.1 = 56 - 8 * (i : Int) ∧ i ≤ 8 ∧ j = 8 - i ∧ s.2 = l0 ++ wbs x i) (fun s => s.2 = l0 ++ wbs x 8) 8 ⟨0, rfl, by omega, rfl, by simp [wbs]⟩ ?_ fin
  rintro j ⟨m, l⟩ ⟨i, rfl, hi, rfl, hl⟩
  dsimp only at *
  subst hl
  refine .ite (fun hp => ?_) (fun hp => .pure ?_)
  · rw [decide_eq_true_iff] at hp
    refine .grd hp (.grd (by simp [wbs_len]; omega) (.pure ⟨8 - (i + 1), by omega, i + 1, ?_, by omega, rfl, ?_⟩))
    · dsimp only; rw [wrap64 (by omega) (by omega)]; omega
    · dsimp only; rw [wbs, List.append_assoc]
  · rw [decide_eq_false_iff_not] at hp
    have : i = 8 := by omega
    subst this; rfl
theorem Wide_val (a : api_Wide) : blob_Wide a = some (wbs a.a3 8 ++ wbs a.a2 8 ++ wbs a.a1 8 ++ wbs a.a0 8) := by
  have key : Tt (blob_Wide a) (fun r => r = wbs a.a3 8 ++ wbs a.a2 8 ++ wbs a.a1 8 ++ wbs a.a0 8) := by
    unfold blob_Wide
    refine wloopV a.a3 [] (by simp) fun s1 h1 => ?_
    refine wloopV a.a2 s1.2 (by rw [h1]; simp [wbs_len]) fun s2 h2 => ?_
    refine wloopV a.a1 s2.2 (by rw [h2, h1]; simp [wbs_len]) fun s3 h3 => ?_
    refine wloopV a.a0 s3.2 (by rw [h3, h2, h1]; simp [wbs_len]) fun s4 h4 => ?_
    exact .pure (by rw [h4, h3, h2, h1]; simp)
  obtain ⟨r, hr, rfl⟩ := key
  exact hr
/-- Two octets of a digit. -/
def pr (d : Int) : List UInt8 := [B8i (IntKind.i64.wrap (Int.tdiv d 256)), B8i (Int.tmod d 256)]
def prs (D : List Int) : Nat → List UInt8
  | 0 => []
  | k + 1 => prs D k ++ pr (D.getD (15 - k) 0)
theorem prs_len (D : List Int) : ∀ k, (prs D k).length = 2 * k
  | 0 => rfl
  | k + 1 => by simp [prs, pr, prs_len D k]; omega
theorem rWide_prs (a : api_Wide) : narrowsref01_Wide a = some (prs (narrowsref01_Digits a) 16) := by
  have hl : (narrowsref01_Digits a).length = 16 := by unfold narrowsref01_Digits; rfl
  have key : Tt (narrowsref01_Wide a) (fun r => r = prs (narrowsref01_Digits a) 16) := by
    unfold narrowsref01_Wide
    generalize narrowsref01_Digits a = D at *
    refine Tt.loopW (fun j s => ∃ i : Nat, s.1 = 15 - (i : Int) ∧ i ≤ 16 ∧ j = 16 - i ∧ s.2 = prs D i) (fun s => s.2 = prs D 16) 16 ⟨0, rfl, by omega, rfl, rfl⟩ ?_ fun s hs => .pure hs
    rintro j ⟨m, l⟩ ⟨i, rfl, hi, rfl, hs⟩
    dsimp only at *
    subst hs
    refine .ite (fun hp => ?_) (fun hp => .pure ?_)
    · rw [decide_eq_true_iff] at hp
      have hat : at_ D (15 - (i : Int)) = some (D.getD (15 - i) 0) := by
        have e : (15 - (i : Int)).toNat = 15 - i := by omega
        have g : D[15 - i]? = some (D[15 - i]'(by omega)) := List.getElem?_eq_getElem (by omega)
        unfold at_
        rw [if_pos hp, e, List.getD_eq_getElem?_getD, g]
        rfl
      rw [hat, Option.bind_some, Option.bind_some]
      refine .grd (by simp [prs_len]; omega) (.pure ⟨16 - (i + 1), by omega, i + 1, ?_, by omega, rfl, ?_⟩)
      · dsimp only; rw [wrap64 (by omega) (by omega)]; omega
      · rfl
    · rw [decide_eq_false_iff_not] at hp
      have : i = 16 := by omega
      subst this; rfl
  obtain ⟨r, hr, rfl⟩ := key
  exact hr
theorem B8i_congr {m n : Int} (h : m % 256 = n % 256) : B8i m = B8i n := by unfold B8i; rw [h]
theorem rsh_val (x : UInt64) (k : Nat) (hk : k ≤ 64) : (rshU x (k : Int)).toNat = x.toNat / 2 ^ k := by
  unfold rshU
  have h := x.toNat_lt
  have e : min (k : Int).toNat 64 = k := by omega
  rw [e, UInt64.toNat_ofNat_of_lt']
  have := Nat.div_le_self x.toNat (2 ^ k)
  show _ < 18446744073709551616
  omega
theorem word_pr (x : UInt64) : pr (IntKind.i64.wrap ((((x / 65536) / 65536) / 65536 % 65536).toNat : Int)) ++ pr (IntKind.i64.wrap (((x / 65536) / 65536 % 65536).toNat : Int)) ++ pr (IntKind.i64.wrap (((x / 65536) % 65536).toNat : Int)) ++ pr (IntKind.i64.wrap ((x % 65536).toNat : Int)) = wbs x 8 := by
  have h := x.toNat_lt
  have z : (65536 : UInt64).toNat = 65536 := rfl
  simp only [UInt64.toNat_mod, UInt64.toNat_div, z]
  simp only [wbs, List.nil_append, pr, List.cons_append, List.append_assoc]
  have r7 : (rshU x (56 - 8 * ((0 : Nat) : Int))).toNat = x.toNat / 72057594037927936 := rsh_val x 56 (by omega)
  have r6 : (rshU x (56 - 8 * ((1 : Nat) : Int))).toNat = x.toNat / 281474976710656 := rsh_val x 48 (by omega)
  have r5 : (rshU x (56 - 8 * ((2 : Nat) : Int))).toNat = x.toNat / 1099511627776 := rsh_val x 40 (by omega)
  have r4 : (rshU x (56 - 8 * ((3 : Nat) : Int))).toNat = x.toNat / 4294967296 := rsh_val x 32 (by omega)
  have r3 : (rshU x (56 - 8 * ((4 : Nat) : Int))).toNat = x.toNat / 16777216 := rsh_val x 24 (by omega)
  have r2 : (rshU x (56 - 8 * ((5 : Nat) : Int))).toNat = x.toNat / 65536 := rsh_val x 16 (by omega)
  have r1 : (rshU x (56 - 8 * ((6 : Nat) : Int))).toNat = x.toNat / 256 := rsh_val x 8 (by omega)
  have r0 : (rshU x (56 - 8 * ((7 : Nat) : Int))).toNat = x.toNat / 1 := rsh_val x 0 (by omega)
  rw [r7, r6, r5, r4, r3, r2, r1, r0]
  generalize x.toNat = n at *
  have hp : ∀ d : Nat, d < 65536 → B8i (IntKind.i64.wrap (Int.tdiv (IntKind.i64.wrap (d : Int)) 256)) = B8i ((d / 256 : Nat) : Int) ∧ B8i (Int.tmod (IntKind.i64.wrap (d : Int)) 256) = B8i (d : Int) := fun d hd => by
    rw [wrap64 (n := (d : Int)) (by omega) (by omega), Int.tdiv_eq_ediv_of_nonneg (by omega), Int.tmod_eq_emod_of_nonneg (by omega), wrap64 (by omega) (by omega)]
    exact ⟨rfl, B8i_congr (by omega)⟩
  have m : ∀ k : Nat, k % 65536 < 65536 := fun k => Nat.mod_lt _ (by decide)
  rw [(hp _ (m _)).1, (hp _ (m _)).2, (hp _ (m _)).1, (hp _ (m _)).2, (hp _ (m _)).1, (hp _ (m _)).2, (hp _ (m _)).1, (hp _ (m _)).2]
  have g : ∀ a b : Nat, a % 256 = b % 256 → B8i (a : Int) = B8i (b : Int) := fun a b h => B8i_congr (by omega)
  rw [g (n / 65536 / 65536 / 65536 % 65536 / 256) (n / 72057594037927936) (by omega), g (n / 65536 / 65536 / 65536 % 65536) (n / 281474976710656) (by omega),
    g (n / 65536 / 65536 % 65536 / 256) (n / 1099511627776) (by omega), g (n / 65536 / 65536 % 65536) (n / 4294967296) (by omega),
    g (n / 65536 % 65536 / 256) (n / 16777216) (by omega), g (n / 65536 % 65536) (n / 65536) (by omega),
    g (n % 65536 / 256) (n / 256) (by omega), g (n % 65536) (n / 1) (by omega)]
theorem rWide_val (a : api_Wide) : narrowsref01_Wide a = some (wbs a.a3 8 ++ wbs a.a2 8 ++ wbs a.a1 8 ++ wbs a.a0 8) := by
  rw [rWide_prs, ← word_pr, ← word_pr, ← word_pr, ← word_pr]
  unfold narrowsref01_Digits
  simp only [prs, List.nil_append, List.append_assoc]
  rfl
theorem Wide_fr {o : field_Out} {w : narrowsref06_W} (a : api_Wide) (h : FR o w) : ∃ o' w', field_Out_Wide o a = some o' ∧ narrowsref06_Wide w a = some w' ∧ FR o' w' := by
  unfold field_Out_Wide narrowsref06_Wide
  rw [Wide_val, Option.bind_some, rWide_val, Option.bind_some]
  obtain ⟨o', w', h1, h2, h3⟩ := put_fr (b := wbs a.a3 8 ++ wbs a.a2 8 ++ wbs a.a1 8 ++ wbs a.a0 8) (b' := wbs a.a3 8 ++ wbs a.a2 8 ++ wbs a.a1 8 ++ wbs a.a0 8) (e := 0) h (by simp [wbs_len]) (fun _ => rfl)
  rw [h1, h2]
  exact ⟨_, _, rfl, rfl, h3⟩
theorem Payload_eq (n : Int) {k : ByteArray} (f : api_Wide) (hk : k.size ≤ 1048576) : ∃ p, deal_Payload n k f = some p ∧ narrowsref06_Payload n k f = some p ∧ p.length ≤ 8192 := by
  unfold deal_Payload narrowsref06_Payload
  simp only [thn]
  have hc : (if (!deal_in n 1 2) = true then true else decide ((k.size : Int) ≠ 32)) = (if decide (n < 1) = true then true else (if decide (n > 2) = true then true else decide ((k.size : Int) ≠ 32))) := by
    unfold deal_in
    simp only [thn]
    by_cases h1 : n ≥ 1
    · have h1' : ¬ n < 1 := by omega
      by_cases h2 : n ≤ 2
      · have h2' : ¬ n > 2 := by omega
        simp [h1, h1', h2, h2']
      · have h2' : n > 2 := by omega
        simp [h1, h1', h2, h2']
    · have h1' : n < 1 := by omega
      simp [h1, h1']
  rw [hc]
  generalize (if decide (n < 1) = true then true else (if decide (n > 2) = true then true else decide ((k.size : Int) ≠ 32))) = c
  cases c
  case true => exact ⟨_, rfl, rfl, by simp⟩
  case false =>
    obtain ⟨o1, w1, p1, q1, k1⟩ := Text_fr (s := ⟨#[97, 99, 116]⟩) (by decide) New_fr
    obtain ⟨o2, w2, p2, q2, k2⟩ := Num_fr n k1
    obtain ⟨o3, w3, p3, q3, k3⟩ := Text_fr hk k2
    obtain ⟨o4, w4, p4, q4, k4⟩ := Wide_fr f k3
    obtain ⟨hd, hl⟩ := Done_fr k4
    simp only [p1, p2, p3, p4, q1, q2, q3, q4, hd, Option.bind_some, Bool.false_eq_true, if_false]
    exact ⟨_, rfl, rfl, hl⟩
end Go.Sl
