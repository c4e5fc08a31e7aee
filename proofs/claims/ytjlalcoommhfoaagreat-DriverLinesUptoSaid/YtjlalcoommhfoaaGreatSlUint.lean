/- Unsigned numbers, as Lean's own. -/
import Derived.Test.YtjlalcoommhfoaaGreatSlMore
import Derived.Laws.Externs
set_option linter.unusedVariables false
set_option linter.unusedSimpArgs false
namespace Go.Sl
theorem wrapU (kd : IntKind) (h : kd.signed = false) (n : Int) : kd.wrap n = n % 2 ^ kd.bits := by
  simp [IntKind.wrap, h]


section
variable {P : Program} {t : TypeId} {x y : UInt64}
abbrev U (x : UInt64) : Value := .int .u64 (x.toNat : Int)
def Ui (n : Int) : UInt64 := UInt64.ofNat (n % 18446744073709551616).toNat
theorem U_wrap (n : Int) : IntKind.u64.wrap n = ((Ui n).toNat : Int) := by
  rw [wrapU .u64 rfl]
  have : (0 : Int) ≤ n % 18446744073709551616 := Int.emod_nonneg _ (by decide)
  have h2 : n % 18446744073709551616 < 18446744073709551616 := Int.emod_lt_of_pos _ (by decide)
  simp only [Ui, UInt64.toNat_ofNat', IntKind.bits]
  omega
theorem Ui_toNat (x : UInt64) : Ui (x.toNat : Int) = x := by
  have := x.toNat_lt
  apply UInt64.toNat_inj.1
  simp only [Ui, UInt64.toNat_ofNat']
  omega
theorem U_lt (x : UInt64) : (x.toNat : Int) < 18446744073709551616 := by have := x.toNat_lt; omega
theorem BinV.addU : BinV P .add t (U x) (U y) (U (x + y)) := BinV.add.intc (by rw [wrapU .u64 rfl]; simp [IntKind.bits, UInt64.toNat_add])
theorem BinV.subU : BinV P .sub t (U x) (U y) (U (x - y)) := BinV.sub.intc (by
  rw [wrapU .u64 rfl]; have := x.toNat_lt; have := y.toNat_lt; simp only [IntKind.bits, UInt64.toNat_sub]; omega)
theorem BinV.mulU : BinV P .mul t (U x) (U y) (U (x * y)) := BinV.mul.intc (by rw [wrapU .u64 rfl]; simp [IntKind.bits, UInt64.toNat_mul])
theorem BinV.quoU (h : y ≠ 0) : BinV P .quo t (U x) (U y) (U (x / y)) :=
  (BinV.quo (fun e => h (UInt64.toNat_inj.1 (by simpa using e)))).intc (by
    rw [wrapU .u64 rfl, Int.tdiv_eq_ediv_of_nonneg (by omega), UInt64.toNat_div]
    have h1 := x.toNat_lt; have h2 := Nat.div_le_self x.toNat y.toNat
    simp only [IntKind.bits]
    rw [← Int.natCast_ediv]
    generalize x.toNat / y.toNat = q at *
    omega)
theorem BinV.remU (h : y ≠ 0) : BinV P .rem t (U x) (U y) (U (x % y)) :=
  (BinV.rem (fun e => h (UInt64.toNat_inj.1 (by simpa using e)))).intc (by rw [Int.tmod_eq_emod_of_nonneg (by omega), UInt64.toNat_mod]; rfl)
theorem BinV.eqlU : BinV P .eql t (U x) (U y) (.bool (decide (x = y))) := BinV.eql.boolc (by congr 1; simp only [eq_iff_iff, ne_eq]; first | exact ⟨fun h => UInt64.toNat_inj.1 (by omega), fun h => by rw [h]⟩ | exact ⟨fun h e => h (by rw [e]), fun h e => h (UInt64.toNat_inj.1 (by omega))⟩)
theorem BinV.neqU : BinV P .neq t (U x) (U y) (.bool (decide (x ≠ y))) := BinV.neq.boolc (by congr 1; simp only [eq_iff_iff, ne_eq]; first | exact ⟨fun h => UInt64.toNat_inj.1 (by omega), fun h => by rw [h]⟩ | exact ⟨fun h e => h (by rw [e]), fun h e => h (UInt64.toNat_inj.1 (by omega))⟩)
theorem BinV.lssU : BinV P .lss t (U x) (U y) (.bool (decide (x < y))) := BinV.lss.boolc (by congr 1; simp [UInt64.lt_iff_toNat_lt])
theorem BinV.leqU : BinV P .leq t (U x) (U y) (.bool (decide (x ≤ y))) := BinV.leq.boolc (by congr 1; simp [UInt64.le_iff_toNat_le])
theorem BinV.gtrU : BinV P .gtr t (U x) (U y) (.bool (decide (x > y))) := BinV.gtr.boolc (by congr 1; simp [UInt64.lt_iff_toNat_lt])
theorem BinV.geqU : BinV P .geq t (U x) (U y) (.bool (decide (x ≥ y))) := BinV.geq.boolc (by congr 1; simp [UInt64.le_iff_toNat_le])
theorem ofIntU (x : UInt64) : BitVec.ofInt 64 (x.toNat : Int) = x.toBitVec := by
  apply BitVec.eq_of_toNat_eq; simp
theorem backU (b : BitVec 64) : IntKind.u64.wrap (b.toNat : Int) = ((UInt64.ofBitVec b).toNat : Int) := by
  rw [wrapU .u64 rfl]; have := b.isLt; simp only [IntKind.bits, UInt64.toNat_ofBitVec]; omega
theorem BinV.andU : BinV P .and t (U x) (U y) (U (x &&& y)) := BinV.and.intc (by
  simp only [bandK, IntKind.bits, ofIntU]; exact backU _)
theorem BinV.orU : BinV P .or t (U x) (U y) (U (x ||| y)) := BinV.or.intc (by
  simp only [borK, IntKind.bits, ofIntU]; exact backU _)
theorem BinV.xorU : BinV P .xor t (U x) (U y) (U (x ^^^ y)) := BinV.xor.intc (by
  simp only [bxorK, IntKind.bits, ofIntU]; exact backU _)
end

section
variable {P : Program} {t : TypeId} {x y : UInt32}
abbrev W4 (x : UInt32) : Value := .int .u32 (x.toNat : Int)
def W4i (n : Int) : UInt32 := UInt32.ofNat (n % 4294967296).toNat
theorem W4_wrap (n : Int) : IntKind.u32.wrap n = ((W4i n).toNat : Int) := by
  rw [wrapU .u32 rfl]
  have : (0 : Int) ≤ n % 4294967296 := Int.emod_nonneg _ (by decide)
  have h2 : n % 4294967296 < 4294967296 := Int.emod_lt_of_pos _ (by decide)
  simp only [W4i, UInt32.toNat_ofNat', IntKind.bits]
  omega
theorem W4i_toNat (x : UInt32) : W4i (x.toNat : Int) = x := by
  have := x.toNat_lt
  apply UInt32.toNat_inj.1
  simp only [W4i, UInt32.toNat_ofNat']
  omega
theorem W4_lt (x : UInt32) : (x.toNat : Int) < 4294967296 := by have := x.toNat_lt; omega
theorem BinV.addW4 : BinV P .add t (W4 x) (W4 y) (W4 (x + y)) := BinV.add.intc (by rw [wrapU .u32 rfl]; simp [IntKind.bits, UInt32.toNat_add])
theorem BinV.subW4 : BinV P .sub t (W4 x) (W4 y) (W4 (x - y)) := BinV.sub.intc (by
  rw [wrapU .u32 rfl]; have := x.toNat_lt; have := y.toNat_lt; simp only [IntKind.bits, UInt32.toNat_sub]; omega)
theorem BinV.mulW4 : BinV P .mul t (W4 x) (W4 y) (W4 (x * y)) := BinV.mul.intc (by rw [wrapU .u32 rfl]; simp [IntKind.bits, UInt32.toNat_mul])
theorem BinV.quoW4 (h : y ≠ 0) : BinV P .quo t (W4 x) (W4 y) (W4 (x / y)) :=
  (BinV.quo (fun e => h (UInt32.toNat_inj.1 (by simpa using e)))).intc (by
    rw [wrapU .u32 rfl, Int.tdiv_eq_ediv_of_nonneg (by omega), UInt32.toNat_div]
    have h1 := x.toNat_lt; have h2 := Nat.div_le_self x.toNat y.toNat
    simp only [IntKind.bits]
    rw [← Int.natCast_ediv]
    generalize x.toNat / y.toNat = q at *
    omega)
theorem BinV.remW4 (h : y ≠ 0) : BinV P .rem t (W4 x) (W4 y) (W4 (x % y)) :=
  (BinV.rem (fun e => h (UInt32.toNat_inj.1 (by simpa using e)))).intc (by rw [Int.tmod_eq_emod_of_nonneg (by omega), UInt32.toNat_mod]; rfl)
theorem BinV.eqlW4 : BinV P .eql t (W4 x) (W4 y) (.bool (decide (x = y))) := BinV.eql.boolc (by congr 1; simp only [eq_iff_iff, ne_eq]; first | exact ⟨fun h => UInt32.toNat_inj.1 (by omega), fun h => by rw [h]⟩ | exact ⟨fun h e => h (by rw [e]), fun h e => h (UInt32.toNat_inj.1 (by omega))⟩)
theorem BinV.neqW4 : BinV P .neq t (W4 x) (W4 y) (.bool (decide (x ≠ y))) := BinV.neq.boolc (by congr 1; simp only [eq_iff_iff, ne_eq]; first | exact ⟨fun h => UInt32.toNat_inj.1 (by omega), fun h => by rw [h]⟩ | exact ⟨fun h e => h (by rw [e]), fun h e => h (UInt32.toNat_inj.1 (by omega))⟩)
theorem BinV.lssW4 : BinV P .lss t (W4 x) (W4 y) (.bool (decide (x < y))) := BinV.lss.boolc (by congr 1; simp [UInt32.lt_iff_toNat_lt])
theorem BinV.leqW4 : BinV P .leq t (W4 x) (W4 y) (.bool (decide (x ≤ y))) := BinV.leq.boolc (by congr 1; simp [UInt32.le_iff_toNat_le])
theorem BinV.gtrW4 : BinV P .gtr t (W4 x) (W4 y) (.bool (decide (x > y))) := BinV.gtr.boolc (by congr 1; simp [UInt32.lt_iff_toNat_lt])
theorem BinV.geqW4 : BinV P .geq t (W4 x) (W4 y) (.bool (decide (x ≥ y))) := BinV.geq.boolc (by congr 1; simp [UInt32.le_iff_toNat_le])
theorem ofIntW4 (x : UInt32) : BitVec.ofInt 32 (x.toNat : Int) = x.toBitVec := by
  apply BitVec.eq_of_toNat_eq; simp
theorem backW4 (b : BitVec 32) : IntKind.u32.wrap (b.toNat : Int) = ((UInt32.ofBitVec b).toNat : Int) := by
  rw [wrapU .u32 rfl]; have := b.isLt; simp only [IntKind.bits, UInt32.toNat_ofBitVec]; omega
theorem BinV.andW4 : BinV P .and t (W4 x) (W4 y) (W4 (x &&& y)) := BinV.and.intc (by
  simp only [bandK, IntKind.bits, ofIntW4]; exact backW4 _)
theorem BinV.orW4 : BinV P .or t (W4 x) (W4 y) (W4 (x ||| y)) := BinV.or.intc (by
  simp only [borK, IntKind.bits, ofIntW4]; exact backW4 _)
theorem BinV.xorW4 : BinV P .xor t (W4 x) (W4 y) (W4 (x ^^^ y)) := BinV.xor.intc (by
  simp only [bxorK, IntKind.bits, ofIntW4]; exact backW4 _)
end

section
variable {P : Program} {t : TypeId} {x y : UInt8}
abbrev B8 (x : UInt8) : Value := .int .u8 (x.toNat : Int)
def B8i (n : Int) : UInt8 := UInt8.ofNat (n % 256).toNat
theorem B8_wrap (n : Int) : IntKind.u8.wrap n = ((B8i n).toNat : Int) := by
  rw [wrapU .u8 rfl]
  have : (0 : Int) ≤ n % 256 := Int.emod_nonneg _ (by decide)
  have h2 : n % 256 < 256 := Int.emod_lt_of_pos _ (by decide)
  simp only [B8i, UInt8.toNat_ofNat', IntKind.bits]
  omega
theorem B8i_toNat (x : UInt8) : B8i (x.toNat : Int) = x := by
  have := x.toNat_lt
  apply UInt8.toNat_inj.1
  simp only [B8i, UInt8.toNat_ofNat']
  omega
theorem B8_lt (x : UInt8) : (x.toNat : Int) < 256 := by have := x.toNat_lt; omega
theorem BinV.addB8 : BinV P .add t (B8 x) (B8 y) (B8 (x + y)) := BinV.add.intc (by rw [wrapU .u8 rfl]; simp [IntKind.bits, UInt8.toNat_add])
theorem BinV.subB8 : BinV P .sub t (B8 x) (B8 y) (B8 (x - y)) := BinV.sub.intc (by
  rw [wrapU .u8 rfl]; have := x.toNat_lt; have := y.toNat_lt; simp only [IntKind.bits, UInt8.toNat_sub]; omega)
theorem BinV.mulB8 : BinV P .mul t (B8 x) (B8 y) (B8 (x * y)) := BinV.mul.intc (by rw [wrapU .u8 rfl]; simp [IntKind.bits, UInt8.toNat_mul])
theorem BinV.quoB8 (h : y ≠ 0) : BinV P .quo t (B8 x) (B8 y) (B8 (x / y)) :=
  (BinV.quo (fun e => h (UInt8.toNat_inj.1 (by simpa using e)))).intc (by
    rw [wrapU .u8 rfl, Int.tdiv_eq_ediv_of_nonneg (by omega), UInt8.toNat_div]
    have h1 := x.toNat_lt; have h2 := Nat.div_le_self x.toNat y.toNat
    simp only [IntKind.bits]
    rw [← Int.natCast_ediv]
    generalize x.toNat / y.toNat = q at *
    omega)
theorem BinV.remB8 (h : y ≠ 0) : BinV P .rem t (B8 x) (B8 y) (B8 (x % y)) :=
  (BinV.rem (fun e => h (UInt8.toNat_inj.1 (by simpa using e)))).intc (by rw [Int.tmod_eq_emod_of_nonneg (by omega), UInt8.toNat_mod]; rfl)
theorem BinV.eqlB8 : BinV P .eql t (B8 x) (B8 y) (.bool (decide (x = y))) := BinV.eql.boolc (by congr 1; simp only [eq_iff_iff, ne_eq]; first | exact ⟨fun h => UInt8.toNat_inj.1 (by omega), fun h => by rw [h]⟩ | exact ⟨fun h e => h (by rw [e]), fun h e => h (UInt8.toNat_inj.1 (by omega))⟩)
theorem BinV.neqB8 : BinV P .neq t (B8 x) (B8 y) (.bool (decide (x ≠ y))) := BinV.neq.boolc (by congr 1; simp only [eq_iff_iff, ne_eq]; first | exact ⟨fun h => UInt8.toNat_inj.1 (by omega), fun h => by rw [h]⟩ | exact ⟨fun h e => h (by rw [e]), fun h e => h (UInt8.toNat_inj.1 (by omega))⟩)
theorem BinV.lssB8 : BinV P .lss t (B8 x) (B8 y) (.bool (decide (x < y))) := BinV.lss.boolc (by congr 1; simp [UInt8.lt_iff_toNat_lt])
theorem BinV.leqB8 : BinV P .leq t (B8 x) (B8 y) (.bool (decide (x ≤ y))) := BinV.leq.boolc (by congr 1; simp [UInt8.le_iff_toNat_le])
theorem BinV.gtrB8 : BinV P .gtr t (B8 x) (B8 y) (.bool (decide (x > y))) := BinV.gtr.boolc (by congr 1; simp [UInt8.lt_iff_toNat_lt])
theorem BinV.geqB8 : BinV P .geq t (B8 x) (B8 y) (.bool (decide (x ≥ y))) := BinV.geq.boolc (by congr 1; simp [UInt8.le_iff_toNat_le])
theorem ofIntB8 (x : UInt8) : BitVec.ofInt 8 (x.toNat : Int) = x.toBitVec := by
  apply BitVec.eq_of_toNat_eq; simp
theorem backB8 (b : BitVec 8) : IntKind.u8.wrap (b.toNat : Int) = ((UInt8.ofBitVec b).toNat : Int) := by
  rw [wrapU .u8 rfl]; have := b.isLt; simp only [IntKind.bits, UInt8.toNat_ofBitVec]; omega
theorem BinV.andB8 : BinV P .and t (B8 x) (B8 y) (B8 (x &&& y)) := BinV.and.intc (by
  simp only [bandK, IntKind.bits, ofIntB8]; exact backB8 _)
theorem BinV.orB8 : BinV P .or t (B8 x) (B8 y) (B8 (x ||| y)) := BinV.or.intc (by
  simp only [borK, IntKind.bits, ofIntB8]; exact backB8 _)
theorem BinV.xorB8 : BinV P .xor t (B8 x) (B8 y) (B8 (x ^^^ y)) := BinV.xor.intc (by
  simp only [bxorK, IntKind.bits, ofIntB8]; exact backB8 _)
end
/-! ### math/bits.Add64, Sub64 -/
def add64 (x y c : UInt64) : UInt64 × UInt64 := (x + y + c, if x.toNat + y.toNat + c.toNat < 18446744073709551616 then 0 else 1)
def sub64 (x y c : UInt64) : UInt64 × UInt64 := (x - y - c, if x.toNat < y.toNat + c.toNat then 1 else 0)
theorem add64_le {x y c : UInt64} : (add64 x y c).2.toNat ≤ 1 := by unfold add64; dsimp only; split <;> decide
theorem sub64_le {x y c : UInt64} : (sub64 x y c).2.toNat ≤ 1 := by unfold sub64; dsimp only; split <;> decide
theorem zero_le1 : (0 : UInt64).toNat ≤ 1 := by decide
theorem run_add64u {P : Program} (x y c : UInt64) (hc : c.toNat ≤ 1) (w : World) : (add64Entry #[U x, U y, U c]).run P w = .ok (Tu [U (add64 x y c).1, U (add64 x y c).2]) w := by
  have hx := x.toNat_lt; have hy := y.toNat_lt
  rw [run_add64 _ _ _ (by omega) (by omega) (by omega) (by omega)]
  have h1 : ((x.toNat : Int) + y.toNat + c.toNat) % 18446744073709551616 = ((add64 x y c).1.toNat : Int) := by
    simp only [add64, UInt64.toNat_add]; omega
  have h2 : ((x.toNat : Int) + y.toNat + c.toNat) / 18446744073709551616 = ((add64 x y c).2.toNat : Int) := by
    unfold add64; dsimp only; split
    · rw [show ((0 : UInt64).toNat : Int) = 0 from rfl]; omega
    · rw [show ((1 : UInt64).toNat : Int) = 1 from rfl]; omega
  rw [h1, h2]
def sub64Entry : Array Value → Sem Value := fun args => do
  let (x, y, b) ← Extern.MathBitsCarry.three "Sub64" args
  pure (Extern.MathBitsCarry.pair ((x + Extern.MathBitsCarry.m64 - y - b) % Extern.MathBitsCarry.m64) (if x < y + b then 1 else 0))
theorem run_sub64u {P : Program} (x y c : UInt64) (hc : c.toNat ≤ 1) (w : World) : (sub64Entry #[U x, U y, U c]).run P w = .ok (Tu [U (sub64 x y c).1, U (sub64 x y c).2]) w := by
  have hx := x.toNat_lt; have hy := y.toNat_lt
  have key : ∀ k : Nat, k ≤ 1 → (sub64Entry #[U x, U y, .int .u64 (k : Int)]).run P w =
      .ok (Extern.MathBitsCarry.pair ((x.toNat + Extern.MathBitsCarry.m64 - y.toNat - k) % Extern.MathBitsCarry.m64) (if x.toNat < y.toNat + k then 1 else 0)) w := by
    intro k hk
    have : k = 0 ∨ k = 1 := by omega
    rcases this with rfl | rfl <;> rfl
  rw [key _ hc]
  have h1 : (x.toNat + Extern.MathBitsCarry.m64 - y.toNat - c.toNat) % Extern.MathBitsCarry.m64 = (sub64 x y c).1.toNat := by
    simp only [sub64, UInt64.toNat_sub, Extern.MathBitsCarry.m64]; omega
  have h2 : (if x.toNat < y.toNat + c.toNat then 1 else 0 : Nat) = (sub64 x y c).2.toNat := by
    unfold sub64; dsimp only; split <;> rfl
  rw [Extern.MathBitsCarry.pair, h1, h2]; rfl
section
variable {C : Cx} {E E' : List (Nat × Value)} {d : Nat} {ty : TypeId} {pos : String} {aft : Array Edge} {gd : Option (Nat × Bool)} {src dst : TypeId} {ds : TypeDesc} {o : Operand} {m : Int} {k' : IntKind}
theorem P.cnvU (h : Ev E o (.int k' m) E') (hu0 : ∀ w, (underlying src).run C.P w = .ok ds w) (hu : ∀ w, (underlying dst).run C.P w = .ok (.int .u64) w) :
    OpP C E ⟨some d, .convert src dst o, ty, pos, aft, gd⟩ (U (Ui m)) E' := by
  show OpP C E _ (.int .u64 ((Ui m).toNat : Int)) E'
  rw [← U_wrap]; exact P.cnv h hu0 hu
theorem P.cnvW4 (h : Ev E o (.int k' m) E') (hu0 : ∀ w, (underlying src).run C.P w = .ok ds w) (hu : ∀ w, (underlying dst).run C.P w = .ok (.int .u32) w) :
    OpP C E ⟨some d, .convert src dst o, ty, pos, aft, gd⟩ (W4 (W4i m)) E' := by
  show OpP C E _ (.int .u32 ((W4i m).toNat : Int)) E'
  rw [← W4_wrap]; exact P.cnv h hu0 hu
theorem P.cnvB8 (h : Ev E o (.int k' m) E') (hu0 : ∀ w, (underlying src).run C.P w = .ok ds w) (hu : ∀ w, (underlying dst).run C.P w = .ok (.int .u8) w) :
    OpP C E ⟨some d, .convert src dst o, ty, pos, aft, gd⟩ (B8 (B8i m)) E' := by
  show OpP C E _ (.int .u8 ((B8i m).toNat : Int)) E'
  rw [← B8_wrap]; exact P.cnv h hu0 hu
theorem P.cnvIW4 {x : UInt32} (h : Ev E o (W4 x) E') (hu0 : ∀ w, (underlying src).run C.P w = .ok ds w) (hu : ∀ w, (underlying dst).run C.P w = .ok (.int .i64) w) :
    OpP C E ⟨some d, .convert src dst o, ty, pos, aft, gd⟩ (N (x.toNat : Int)) E' := by
  have := P.cnv (C := C) (d := d) (ty := ty) (pos := pos) (aft := aft) (gd := gd) h hu0 hu
  rwa [show IntKind.i64.wrap (x.toNat : Int) = (x.toNat : Int) from IntWalk.i64_in _ (by have := x.toNat_lt; omega)] at this
theorem P.cnvIB8 {x : UInt8} (h : Ev E o (B8 x) E') (hu0 : ∀ w, (underlying src).run C.P w = .ok ds w) (hu : ∀ w, (underlying dst).run C.P w = .ok (.int .i64) w) :
    OpP C E ⟨some d, .convert src dst o, ty, pos, aft, gd⟩ (N (x.toNat : Int)) E' := by
  have := P.cnv (C := C) (d := d) (ty := ty) (pos := pos) (aft := aft) (gd := gd) h hu0 hu
  rwa [show IntKind.i64.wrap (x.toNat : Int) = (x.toNat : Int) from IntWalk.i64_in _ (by have := x.toNat_lt; omega)] at this
end
section
variable {C : Cx} {E E' : List (Nat × Value)} {d : Nat} {ty : TypeId} {pos : String} {aft : Array Edge} {gd : Option (Nat × Bool)} {xs : List Operand} {ats : Array TypeId} {f : FuncId} {args : List Value} {v : Value} {fn : Func} {en : Array Value → Sem Value}
/-- A function of the model's own, without memory. -/
theorem P.extn (ha : Evs E xs args E') (hf : C.P.funcs[f]? = some fn) (hname : (fn.name == "runtime.NumGoroutine") = false) (hb : fn.body.isNone = true) (hn : Extern.findNext fn = none) (he : Extern.find fn = some en)
    (hr : ∀ w, (en ⟨args⟩).run C.P w = .ok v w) : OpP C E ⟨some d, .call ⟨.value (.func f), ⟨xs⟩, ats⟩, ty, pos, aft, gd⟩ v E' := fun a w hen => by
  obtain ⟨h1, h2⟩ := ha _ a hen
  refine ⟨?_, h2⟩
  subst h1
  have := run_callFunc_extern hf hname hb hn he ⟨xs.map a.eval⟩ w
  rw [hr] at this
  simp [execOp, resolve, Deferred.ofValue, Act.eval, invoke]
  simpa using this
end

section
variable {P : Program} {t : TypeId} {x : UInt64} {n : Int} {kd : IntKind}
def rshU (x : UInt64) (n : Int) : UInt64 := UInt64.ofNat (x.toNat / 2 ^ (min n.toNat 64))
def lshU (x : UInt64) (n : Int) : UInt64 := UInt64.ofNat (x.toNat * 2 ^ (min n.toNat 64))
theorem BinV.shrU (h : 0 ≤ n) : BinV P .shr t (U x) (.int kd n) (U (rshU x n)) := (BinV.shr h).intc (by
  have h1 := x.toNat_lt
  have h2 := Nat.div_le_self x.toNat (2 ^ (min n.toNat 64))
  have : (rshU x n).toNat = x.toNat / 2 ^ (min n.toNat 64) := by simp only [rshU, UInt64.toNat_ofNat']; rw [Nat.mod_eq_of_lt]; omega
  rw [this, shrK, IntKind.bits, Int.fdiv_eq_ediv_of_nonneg _ (Int.le_of_lt (Int.pow_pos (by decide))), Int.natCast_ediv, Int.natCast_pow]; rfl)
theorem BinV.shlU (h : 0 ≤ n) : BinV P .shl t (U x) (.int kd n) (U (lshU x n)) := (BinV.shl h).intc (by
  have : (lshU x n).toNat = (x.toNat * 2 ^ (min n.toNat 64)) % 18446744073709551616 := by simp only [lshU, UInt64.toNat_ofNat']
  rw [this, shlK, wrapU .u64 rfl, Int.natCast_emod, Int.natCast_mul, Int.natCast_pow]; rfl)
end
section
variable {P : Program} {t : TypeId} {x : UInt32} {n : Int} {kd : IntKind}
def rshW4 (x : UInt32) (n : Int) : UInt32 := UInt32.ofNat (x.toNat / 2 ^ (min n.toNat 32))
def lshW4 (x : UInt32) (n : Int) : UInt32 := UInt32.ofNat (x.toNat * 2 ^ (min n.toNat 32))
theorem BinV.shrW4 (h : 0 ≤ n) : BinV P .shr t (W4 x) (.int kd n) (W4 (rshW4 x n)) := (BinV.shr h).intc (by
  have h1 := x.toNat_lt
  have h2 := Nat.div_le_self x.toNat (2 ^ (min n.toNat 32))
  have : (rshW4 x n).toNat = x.toNat / 2 ^ (min n.toNat 32) := by simp only [rshW4, UInt32.toNat_ofNat']; rw [Nat.mod_eq_of_lt]; omega
  rw [this, shrK, IntKind.bits, Int.fdiv_eq_ediv_of_nonneg _ (Int.le_of_lt (Int.pow_pos (by decide))), Int.natCast_ediv, Int.natCast_pow]; rfl)
theorem BinV.shlW4 (h : 0 ≤ n) : BinV P .shl t (W4 x) (.int kd n) (W4 (lshW4 x n)) := (BinV.shl h).intc (by
  have : (lshW4 x n).toNat = (x.toNat * 2 ^ (min n.toNat 32)) % 4294967296 := by simp only [lshW4, UInt32.toNat_ofNat']
  rw [this, shlK, wrapU .u32 rfl, Int.natCast_emod, Int.natCast_mul, Int.natCast_pow]; rfl)
end
section
variable {P : Program} {t : TypeId} {x : UInt8} {n : Int} {kd : IntKind}
def rshB8 (x : UInt8) (n : Int) : UInt8 := UInt8.ofNat (x.toNat / 2 ^ (min n.toNat 8))
def lshB8 (x : UInt8) (n : Int) : UInt8 := UInt8.ofNat (x.toNat * 2 ^ (min n.toNat 8))
theorem BinV.shrB8 (h : 0 ≤ n) : BinV P .shr t (B8 x) (.int kd n) (B8 (rshB8 x n)) := (BinV.shr h).intc (by
  have h1 := x.toNat_lt
  have h2 := Nat.div_le_self x.toNat (2 ^ (min n.toNat 8))
  have : (rshB8 x n).toNat = x.toNat / 2 ^ (min n.toNat 8) := by simp only [rshB8, UInt8.toNat_ofNat']; rw [Nat.mod_eq_of_lt]; omega
  rw [this, shrK, IntKind.bits, Int.fdiv_eq_ediv_of_nonneg _ (Int.le_of_lt (Int.pow_pos (by decide))), Int.natCast_ediv, Int.natCast_pow]; rfl)
theorem BinV.shlB8 (h : 0 ≤ n) : BinV P .shl t (B8 x) (.int kd n) (B8 (lshB8 x n)) := (BinV.shl h).intc (by
  have : (lshB8 x n).toNat = (x.toNat * 2 ^ (min n.toNat 8)) % 256 := by simp only [lshB8, UInt8.toNat_ofNat']
  rw [this, shlK, wrapU .u8 rfl, Int.natCast_emod, Int.natCast_mul, Int.natCast_pow]; rfl)
end
end Go.Sl
