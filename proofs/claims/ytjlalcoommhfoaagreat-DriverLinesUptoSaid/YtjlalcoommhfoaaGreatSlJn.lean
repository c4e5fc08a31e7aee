/- strings.Join: what the library's shelf tells of it, as a contract. -/
import Derived.Test.YtjlalcoommhfoaaGreatSlBx2
import Derived.Test.YtjlalcoommhfoaaGreatProg
import Derived.Shelf.Strings.OnBuilder
set_option linter.unusedVariables false
namespace Go.Sl
open Go.Proofs Go.Proofs.Tryz Go.Shelf
theorem P.idxsk {C : Cx} {E E1 E' : List (Nat × Value)} {d : Nat} {ty : TypeId} {pos : String} {aft : Array Edge} {gd : Option (Nat × Bool)} {o oi : Operand} {s : TypeId} {i : Nat} {kd : IntKind} {m : Int} {z : ByteArray} {c : UInt8} (h' : Ev E oi (.string z) E1) (h : Ev E1 o (.int kd m) E') (hm : m = i) (hu : ∀ w, (underlying s).run C.P w = .ok .string w)
    (hi : z[i]? = some c) : OpP C E ⟨some d, .index s oi o, ty, pos, aft, gd⟩ (B8 c) E' := fun a w he => by
  obtain ⟨h1, h2⟩ := h' _ a he
  obtain ⟨h3, h4⟩ := h _ a h2
  subst hm
  refine ⟨?_, h4⟩
  simp [execOp, h1, h3, Instr.index, asIntOf, hu, hi]
theorem P.negU {C : Cx} {E E' : List (Nat × Value)} {d : Nat} {ty : TypeId} {pos : String} {aft : Array Edge} {gd : Option (Nat × Bool)} {o : Operand} {x : UInt64} {t : TypeId} (h : Ev E o (U x) E') : OpP C E ⟨some d, .unOp .neg t o, ty, pos, aft, gd⟩ (U (0 - x)) E' := fun a w he => by
  obtain ⟨h1, h2⟩ := (P.neg (C := C) (d := d) (ty := ty) (pos := pos) (aft := aft) (gd := gd) (t := t) h) a w he
  refine ⟨h1.trans ?_, h2⟩
  have : IntKind.u64.wrap (0 - (x.toNat : Int)) = ((0 - x).toNat : Int) := by
    rw [wrapU .u64 rfl]; have := x.toNat_lt; simp only [IntKind.bits, UInt64.toNat_sub, UInt64.toNat_zero]; omega
  rw [this]
theorem P.slstU {C : Cx} {E E0 E1 E' : List (Nat × Value)} {d : Nat} {ty : TypeId} {pos : String} {aft : Array Edge} {gd : Option (Nat × Bool)} {o lo hi : Operand} {st : TypeId} {x y : UInt64} {s : ByteArray}
    (h0 : Ev E o (.string s) E0) (h1 : Ev E0 lo (U x) E1) (h2 : Ev E1 hi (U y) E') (hu : ∀ w, (underlying st).run C.P w = .ok .string w) (hok : okS s.size (some (x.toNat : Int)) (some (y.toNat : Int)) none) :
    OpP C E ⟨some d, .slice st o (some lo) (some hi) none, ty, pos, aft, gd⟩ (.string (s.extract x.toNat y.toNat)) E' := fun a w he => by
  obtain ⟨a0, b0⟩ := h0 _ a he
  obtain ⟨a1, b1⟩ := h1 _ a b0
  obtain ⟨a2, b2⟩ := h2 _ a b1
  obtain ⟨g1, g2, g3, _⟩ := hok
  simp only [Option.getD_some] at g1 g2 g3
  refine ⟨?_, b2⟩
  have k2 : x.toNat ≤ y.toNat := by omega
  have k3 : y.toNat ≤ s.size := by omega
  simp [execOp, a0, a1, a2, Instr.sliceAt, Instr.slice, hu, Instr.sliceBounds, Instr.sliceBound, asIntOf, k2, k3]
def joinRen : Ren where
  f := fun x => match x with
    | 156 => 29
    | 165 => 54
    | 166 => 55
    | 169 => 56
    | 240 => 106
    | 241 => 107
    | 276 => 169
    | 277 => 170
    | n => n
  t := fun x => match x with
    | 31 => 60
    | 9 => 9
    | 3 => 3
    | 4 => 4
    | 0 => 0
    | 20 => 20
    | 72 => 132
    | 76 => 135
    | 70 => 130
    | 37 => 70
    | 75 => 134
    | 127 => 212
    | 164 => 284
    | 5 => 5
    | 80 => 137
    | n => n
  g := fun x => x
theorem joinLays : Lays.n156 Tryz.prog joinRen where
  mixed := by kernel_rfl
  f156 := Eq.trans Tryz.func29 (congrArg some (by kernel_rfl))
  f165 := Eq.trans Tryz.func54 (congrArg some (by kernel_rfl))
  f166 := Eq.trans Tryz.func55 (congrArg some (by kernel_rfl))
  f169 := Eq.trans Tryz.func56 (congrArg some (by kernel_rfl))
  f240 := Eq.trans Tryz.func106 (congrArg some (by kernel_rfl))
  f241 := Eq.trans Tryz.func107 (congrArg some (by kernel_rfl))
  f276 := Eq.trans Tryz.func169 (congrArg some (by kernel_rfl))
  f277 := Eq.trans Tryz.func170 (congrArg some (by kernel_rfl))
  t0 := Tryz.underlying0
  a0 := Tryz.isAgg0
  z0 := Tryz.sizeOf0
  v0 := Tryz.zeroValue0
  t3 := Tryz.underlying3
  a3 := Tryz.isAgg3
  z3 := Tryz.sizeOf3
  v3 := Tryz.zeroValue3
  t4 := Tryz.underlying4
  a4 := Tryz.isAgg4
  z4 := Tryz.sizeOf4
  v4 := Tryz.zeroValue4
  t9 := Tryz.underlying9
  a9 := Tryz.isAgg9
  z9 := Tryz.sizeOf9
  v9 := Tryz.zeroValue9
  t20 := Tryz.underlying20
  a20 := Tryz.isAgg20
  z20 := Tryz.sizeOf20
  v20 := Tryz.zeroValue20
  t31 := Tryz.underlying60
  a31 := Tryz.isAgg60
  z31 := Tryz.sizeOf60
  v31 := Tryz.zeroValue60
  t37 := Tryz.underlying70
  a37 := Tryz.isAgg70
  z37 := Tryz.sizeOf70
  v37 := Tryz.zeroValue70
  t70 := Tryz.underlying130
  a70 := Tryz.isAgg130
  z70 := Tryz.sizeOf130
  v70 := Tryz.zeroValue130
  t72 := Tryz.underlying132
  a72 := Tryz.isAgg132
  z72 := Tryz.sizeOf132
  v72 := Tryz.zeroValue132
  t75 := Tryz.underlying134
  a75 := Tryz.isAgg134
  z75 := Tryz.sizeOf134
  v75 := Tryz.zeroValue134
  t76 := Tryz.underlying135
  a76 := Tryz.isAgg135
  z76 := Tryz.sizeOf135
  v76 := Tryz.zeroValue135
  t127 := Tryz.underlying212
  a127 := Tryz.isAgg212
  z127 := Tryz.sizeOf212
  v127 := Tryz.zeroValue212
  t164 := Tryz.underlying284
  a164 := Tryz.isAgg284
  z164 := Tryz.sizeOf284
  v164 := Tryz.zeroValue284
theorem joinX : Builder.Extra Tryz.prog joinRen where
  sizeBuilder := by kernel_rfl
  liesBuilder := by kernel_rfl
  t5 := Tryz.underlying5
  a5 := Tryz.isAgg5
  z5 := Tryz.sizeOf5
  v5 := Tryz.zeroValue5
  infoByte := by kernel_rfl
  cellsByte := by kernel_rfl
  sizeByte := by kernel_rfl
  neB5 := by decide
noncomputable def joined (xs : List ByteArray) (sep : ByteArray) : ByteArray := ⟨(Lib.join (xs.map (·.data.toList)) sep.data.toList).toArray⟩
noncomputable def strings_Join (xs : List ByteArray) (sep : ByteArray) : Option ByteArray :=
  grd (2 ≤ xs.length ∧ xs.length ≤ 140737488355328 ∧ (Lib.join (xs.map (·.data.toList)) sep.data.toList).length ≤ 140737488355328) <| some (joined xs sep)
theorem S_strings_Join (v00 : Value) (a0 : List ByteArray) (a1 : ByteArray) (r : ByteArray) (h : strings_Join a0 a1 = some r) :
    SpecF Tryz.prog 29 [v00, .string a1] [] [rows 1 v00 (a0.map (fun x => [.string x]))] (fun z : Unit => True) (fun z => .string r) (fun z M => M) (fun z M => M) := by
  unfold strings_Join at h
  obtain ⟨⟨h2, hN, hl⟩, h⟩ := grd_eq h
  cases h
  intro w hp g st hin gin gh hr
  obtain ⟨k, hk, hle⟩ := hr _ (List.mem_singleton.2 rfl)
  obtain ⟨h1, hb, hh⟩ := hk
  rcases hh with ⟨he, _⟩ | ⟨b, off, cap, T, all, fz, rfl, rfl, hpre, hc⟩
  · simp at he; subst he; simp at h2
  have hw : w.heap[b]? = some (.cells ⟨all⟩ T fz) := hle.inw gin b _ (by simp [single])
  have hfl : ∀ l : List ByteArray, (l.map (fun x => [Value.string x])).flatten = l.map Value.string := by
    intro l; induction l with
    | nil => rfl
    | cons x l ih => simp [ih]
  rw [hfl] at hpre
  simp only [List.length_map] at hc ⊢
  have hcells : ∀ (j : Nat) x, a0[j]? = some x → w.cell? ⟨b, off + j, none⟩ = some (.string x) := fun j x hx => by
    rw [cell_at hw]
    exact pre_get hpre (by rw [List.getElem?_map, hx]; rfl)
  have hbk : b < w.heap.size := (Array.getElem?_eq_some_iff.1 hw).1
  refine (Any.strings_Join_many joinLays joinX b off cap a0 a1 w hcells hbk h2 hN hc hl).mono ?_
  rintro e w' ⟨rfl, hB⟩
  refine ⟨_, _, _, rfl, ⟨(), trivial, rfl, rfl, rfl⟩, ?_⟩
  have n0 : ∀ (i : Nat), ((fun _ => none : Hp) i ≠ none) → False := fun _ h => h rfl
  exact ⟨hB.os, hB.tape, hB.output, hB.size, fun i hi _ => hB.block i hi, (fun _ => none : Hp), (fun _ => none : Hp), trivial, (fun _ _ h => by cases h), (fun _ _ h => by cases h), (fun _ => Or.inl rfl), (fun i h => (n0 i h).elim), (fun i h => (n0 i h).elim), fun r h => by cases h⟩
attribute [irreducible] strings_Join
end Go.Sl
