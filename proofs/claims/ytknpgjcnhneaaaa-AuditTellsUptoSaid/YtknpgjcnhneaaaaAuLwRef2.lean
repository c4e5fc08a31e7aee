/- The reference's digits are the program's. -/
import Derived.Test.YtknpgjcnhneaaaaAuLwRef
set_option linter.unusedVariables false
set_option linter.unusedSimpArgs false
namespace Go.Sl
def p12 (x y z : Int) : List Int := [x / 64, x / 16 % 4, x / 4 % 4, x % 4, y / 64, y / 16 % 4, y / 4 % 4, y % 4, z / 64, z / 16 % 4, z / 4 % 4, z % 4]
def rst (x y z : Int) : Int := 36 - x / 64 - x / 16 % 4 - x / 4 % 4 - x % 4 - y / 64 - y / 16 % 4 - y / 4 % 4 - y % 4 - z / 64 - z / 16 % 4 - z / 4 % 4 - z % 4
def digs (x y z : Int) : List Int := p12 x y z ++ [rst x y z / 16, rst x y z / 4 % 4, rst x y z % 4]
theorem spr12 {x y z : Int} (hx : 0 ≤ x ∧ x < 256) (hy : 0 ≤ y ∧ y < 256) (hz : 0 ≤ z ∧ z < 256) : spr (x * 65536 + y * 256 + z) 12 = p12 x y z := by
  have h1 : spr (x * 65536 + y * 256 + z) 12 = spr (x * 256 + y) 8 ++ [z / 64, z / 16 % 4, z / 4 % 4, z % 4] := by
    have e : (x * 65536 + y * 256 + z) / 4 / 4 / 4 / 4 = x * 256 + y := by omega
    simp only [spr, e, List.append_assoc, List.cons_append, List.nil_append]
    congr 1
    have g1 : (x * 65536 + y * 256 + z) / 4 / 4 / 4 % 4 = z / 64 := by omega
    have g2 : (x * 65536 + y * 256 + z) / 4 / 4 % 4 = z / 16 % 4 := by omega
    have g3 : (x * 65536 + y * 256 + z) / 4 % 4 = z / 4 % 4 := by omega
    have g4 : (x * 65536 + y * 256 + z) % 4 = z % 4 := by omega
    rw [g1, g2, g3, g4]
  have h2 : spr (x * 256 + y) 8 = spr x 4 ++ [y / 64, y / 16 % 4, y / 4 % 4, y % 4] := by
    have e : (x * 256 + y) / 4 / 4 / 4 / 4 = x := by omega
    simp only [spr, e, List.append_assoc, List.cons_append, List.nil_append]
    congr 1
    have g1 : (x * 256 + y) / 4 / 4 / 4 % 4 = y / 64 := by omega
    have g2 : (x * 256 + y) / 4 / 4 % 4 = y / 16 % 4 := by omega
    have g3 : (x * 256 + y) / 4 % 4 = y / 4 % 4 := by omega
    have g4 : (x * 256 + y) % 4 = y % 4 := by omega
    rw [g1, g2, g3, g4]
  have h3 : spr x 4 = [x / 64, x / 16 % 4, x / 4 % 4, x % 4] := by
    simp only [spr, List.append_assoc, List.cons_append, List.nil_append]
    have g1 : x / 4 / 4 / 4 % 4 = x / 64 := by omega
    have g2 : x / 4 / 4 % 4 = x / 16 % 4 := by omega
    rw [g1, g2]
  rw [h1, h2, h3]
  rfl
theorem four {x : Int} (hx : 0 ≤ x ∧ x < 256) : (0 ≤ x / 64 ∧ x / 64 ≤ 3) ∧ (0 ≤ x / 16 % 4 ∧ x / 16 % 4 ≤ 3) ∧ (0 ≤ x / 4 % 4 ∧ x / 4 % 4 ≤ 3) ∧ 0 ≤ x % 4 ∧ x % 4 ≤ 3 := ⟨by omega, by omega, by omega, by omega⟩
theorem rst_in {x y z : Int} (hx : 0 ≤ x ∧ x < 256) (hy : 0 ≤ y ∧ y < 256) (hz : 0 ≤ z ∧ z < 256) : 0 ≤ rst x y z ∧ rst x y z ≤ 36 := by
  unfold rst
  have h1 := four hx
  have h2 := four hy
  have h3 := four hz
  clear hx hy hz
  generalize x / 64 = a0 at *; generalize x / 16 % 4 = a1 at *; generalize x / 4 % 4 = a2 at *; generalize x % 4 = a3 at *
  generalize y / 64 = b0 at *; generalize y / 16 % 4 = b1 at *; generalize y / 4 % 4 = b2 at *; generalize y % 4 = b3 at *
  generalize z / 64 = c0 at *; generalize z / 16 % 4 = c1 at *; generalize z / 4 % 4 = c2 at *; generalize z % 4 = c3 at *
  omega
theorem spr3 {r : Int} (h : 0 ≤ r ∧ r ≤ 36) : spr r 3 = [r / 16, r / 4 % 4, r % 4] := by
  simp only [spr, List.append_assoc, List.cons_append, List.nil_append]
  have g1 : r / 4 / 4 % 4 = r / 16 := by omega
  rw [g1]
theorem wrS {m : Int} (h : -1000 ≤ m) (h2 : m ≤ 1000) : IntKind.i64.wrap m = m := wrap64 (by omega) (by omega)
/-- What is left over, from its twelve parts. -/
theorem rest12 {a0 a1 a2 a3 b0 b1 b2 b3 c0 c1 c2 c3 : Int} (h1 : (0 ≤ a0 ∧ a0 ≤ 3) ∧ (0 ≤ a1 ∧ a1 ≤ 3) ∧ (0 ≤ a2 ∧ a2 ≤ 3) ∧ 0 ≤ a3 ∧ a3 ≤ 3) (h2 : (0 ≤ b0 ∧ b0 ≤ 3) ∧ (0 ≤ b1 ∧ b1 ≤ 3) ∧ (0 ≤ b2 ∧ b2 ≤ 3) ∧ 0 ≤ b3 ∧ b3 ≤ 3) (h3 : (0 ≤ c0 ∧ c0 ≤ 3) ∧ (0 ≤ c1 ∧ c1 ≤ 3) ∧ (0 ≤ c2 ∧ c2 ≤ 3) ∧ 0 ≤ c3 ∧ c3 ≤ 3) :
    (IntKind.i64.wrap ((IntKind.i64.wrap ((IntKind.i64.wrap ((IntKind.i64.wrap ((IntKind.i64.wrap ((IntKind.i64.wrap ((IntKind.i64.wrap ((IntKind.i64.wrap ((IntKind.i64.wrap ((IntKind.i64.wrap ((IntKind.i64.wrap ((IntKind.i64.wrap (36 - a0)) - a1)) - a2)) - a3)) - b0)) - b1)) - b2)) - b3)) - c0)) - c1)) - c2)) - c3)) = 36 - a0 - a1 - a2 - a3 - b0 - b1 - b2 - b3 - c0 - c1 - c2 - c3 := by
  rw [wrS (m := 36 - a0) (by omega) (by omega)]
  rw [wrS (m := 36 - a0 - a1) (by omega) (by omega)]
  rw [wrS (m := 36 - a0 - a1 - a2) (by omega) (by omega)]
  rw [wrS (m := 36 - a0 - a1 - a2 - a3) (by omega) (by omega)]
  rw [wrS (m := 36 - a0 - a1 - a2 - a3 - b0) (by omega) (by omega)]
  rw [wrS (m := 36 - a0 - a1 - a2 - a3 - b0 - b1) (by omega) (by omega)]
  rw [wrS (m := 36 - a0 - a1 - a2 - a3 - b0 - b1 - b2) (by omega) (by omega)]
  rw [wrS (m := 36 - a0 - a1 - a2 - a3 - b0 - b1 - b2 - b3) (by omega) (by omega)]
  rw [wrS (m := 36 - a0 - a1 - a2 - a3 - b0 - b1 - b2 - b3 - c0) (by omega) (by omega)]
  rw [wrS (m := 36 - a0 - a1 - a2 - a3 - b0 - b1 - b2 - b3 - c0 - c1) (by omega) (by omega)]
  rw [wrS (m := 36 - a0 - a1 - a2 - a3 - b0 - b1 - b2 - b3 - c0 - c1 - c2) (by omega) (by omega)]
  rw [wrS (m := 36 - a0 - a1 - a2 - a3 - b0 - b1 - b2 - b3 - c0 - c1 - c2 - c3) (by omega) (by omega)]
theorem Digits_val {t : List UInt8} (h : t.length ≤ 1099511627776) : ∃ d : List Int, d.length = 15 ∧ ots_Digits t = some d ∧ narrowsref04_Digits t = some d := by
  obtain ⟨s1, s2, s3⟩ := Sm_val h
  obtain ⟨x, y, z, l, hS⟩ : ∃ x y z l, Sm t = x :: y :: z :: l := by
    match hS : Sm t with
    | [] => simp [hS] at s3
    | [_] => simp [hS] at s3
    | [_, _] => simp [hS] at s3
    | x :: y :: z :: l => exact ⟨x, y, z, l, rfl⟩
  have hx : (0 : Int) ≤ (x.toNat : Int) ∧ (x.toNat : Int) < 256 := ⟨by omega, by have := b8 x; omega⟩
  have hy : (0 : Int) ≤ (y.toNat : Int) ∧ (y.toNat : Int) < 256 := ⟨by omega, by have := b8 y; omega⟩
  have hz : (0 : Int) ≤ (z.toNat : Int) ∧ (z.toNat : Int) < 256 := ⟨by omega, by have := b8 z; omega⟩
  refine ⟨digs x.toNat y.toNat z.toNat, rfl, ?_, ?_⟩
  · unfold ots_Digits
    rw [s1, Option.bind_some, grd_pos (by rw [s3]; omega), hS]
    have e1 : (x :: y :: z :: l).take (3 : Int).toNat = [x, y, z] := rfl
    have e2 : (bn (([x, y, z] : List UInt8).take 7) : Int) = (x.toNat : Int) * 65536 + (y.toNat : Int) * 256 + (z.toNat : Int) := by
      simp [bn]; omega
    have e3 : ots_spread ((x.toNat : Int) * 65536 + (y.toNat : Int) * 256 + (z.toNat : Int)) 12 = some (p12 x.toNat y.toNat z.toNat) := by
      have := spread_val (n := (x.toNat : Int) * 65536 + (y.toNat : Int) * 256 + (z.toNat : Int)) (by omega) (by omega) (k := 12) (by omega)
      rw [spr12 hx hy hz] at this
      exact this
    rw [e1, Int_val, Option.bind_some, e2, e3, Option.bind_some]
    have hr := rst_in hx hy hz
    have h1 := four hx
    have h2 := four hy
    have h3 := four hz
    clear e1 e2 e3 hS
    generalize (x.toNat : Int) = X at *
    generalize (y.toNat : Int) = Y at *
    generalize (z.toNat : Int) = Z at *
    have hloop : ∀ f : Nat → Int → Int → Option (Ct Int (List Int)), (∀ i e s, f i e s = some (.nx (IntKind.i64.wrap (s - e)))) → loopR f 0 (p12 X Y Z) 36 = some (.dn (rst X Y Z)) := by
      intro f hf
      unfold p12
      simp only [loopR, hf, Option.bind_some]
      rw [rest12 h1 h2 h3]
      rfl
    rw [hloop _ (fun _ _ _ => rfl), Option.bind_some]
    have e4 : ots_spread (rst X Y Z) 3 = some [rst X Y Z / 16, rst X Y Z / 4 % 4, rst X Y Z % 4] := by
      have := spread_val (n := rst X Y Z) (by omega) (by omega) (k := 3) (by omega)
      rw [spr3 hr] at this
      exact this
    simp only [Lo.on]
    rw [e4, Option.bind_some, grd_pos (by simp [p12])]
    rfl
  · unfold narrowsref04_Digits
    rw [s2, Option.bind_some, hS]
    have a0 : at_ (x :: y :: z :: l) 0 = some x := rfl
    have a1 : at_ (x :: y :: z :: l) 1 = some y := rfl
    have a2 : at_ (x :: y :: z :: l) 2 = some z := rfl
    rw [a0, Option.bind_some, a1, Option.bind_some, a2, Option.bind_some]
    have hr := rst_in hx hy hz
    have h1 := four hx
    have h2 := four hy
    have h3 := four hz
    clear hS a0 a1 a2
    generalize (x.toNat : Int) = X at *
    generalize (y.toNat : Int) = Y at *
    generalize (z.toNat : Int) = Z at *
    have td : ∀ m k : Int, 0 ≤ m → Int.tdiv m k = m / k := fun m k hm => Int.tdiv_eq_ediv_of_nonneg hm
    have tm : ∀ m k : Int, 0 ≤ m → Int.tmod m k = m % k := fun m k hm => Int.tmod_eq_emod_of_nonneg hm
    have b1 : ∀ m : Int, 0 ≤ m ∧ m < 256 → IntKind.i64.wrap (m / 64) = m / 64 ∧ IntKind.i64.wrap (m / 16) = m / 16 ∧ IntKind.i64.wrap (m / 4) = m / 4 ∧ Int.tmod (m / 16) 4 = m / 16 % 4 ∧ Int.tmod (m / 4) 4 = m / 4 % 4 := fun m hm =>
      ⟨wrS (by omega) (by omega), wrS (by omega) (by omega), wrS (by omega) (by omega), tm _ _ (by omega), tm _ _ (by omega)⟩
    obtain ⟨x1, x2, x3, x4, x5⟩ := b1 X hx
    obtain ⟨y1, y2, y3, y4, y5⟩ := b1 Y hy
    obtain ⟨z1, z2, z3, z4, z5⟩ := b1 Z hz
    rw [td X 64 hx.1, td X 16 hx.1, td X 4 hx.1, tm X 4 hx.1, td Y 64 hy.1, td Y 16 hy.1, td Y 4 hy.1, tm Y 4 hy.1, td Z 64 hz.1, td Z 16 hz.1, td Z 4 hz.1, tm Z 4 hz.1,
      x1, x2, x3, x4, x5, y1, y2, y3, y4, y5, z1, z2, z3, z4, z5, rest12 h1 h2 h3]
    have er : 36 - X / 64 - X / 16 % 4 - X / 4 % 4 - X % 4 - Y / 64 - Y / 16 % 4 - Y / 4 % 4 - Y % 4 - Z / 64 - Z / 16 % 4 - Z / 4 % 4 - Z % 4 = rst X Y Z := rfl
    rw [er]
    unfold digs p12
    clear er x1 x2 x3 x4 x5 y1 y2 y3 y4 y5 z1 z2 z3 z4 z5 h1 h2 h3 hx hy hz
    generalize rst X Y Z = R at *
    rw [td R 16 hr.1, td R 4 hr.1, tm R 4 hr.1, wrS (m := R / 16) (by omega) (by omega), wrS (m := R / 4) (by omega) (by omega), tm (R / 4) 4 (by omega)]
    rfl
end Go.Sl
