/- When two values are the same: structs and arrays. -/
import Derived.Test.YtjlalcoommhfoaaGreatSlUint
import Derived.Laws.StructEq
set_option linter.unusedVariables false
namespace Go.Sl
section
variable {P : Program} {d : Nat} {t : TypeId} {xs ys : Array Value} {x y : Value} {r s : Bool}
def PartV (P : Program) (t : TypeId) (xs : Array Value) (off : Nat) (v : Value) : Prop := ∀ w, (part t xs off).run P w = .ok v w
theorem PartV.one {off : Nat} {v : Value} (hi : ∀ w, (isAgg t).run P w = .ok false w) (h : xs[off]? = some v) : PartV P t xs off v := fun w => by
  simp only [part, Sem.run_bind, hi, Result.andThen_ok, Bool.false_eq_true, if_false, h, Sem.run_pure]
theorem PartV.agg {off n : Nat} {vs : List Value} (hi : ∀ w, (isAgg t).run P w = .ok true w) (hs : ∀ w, (sizeOf t).run P w = .ok n w) (h : xs.extract off (off + n) = ⟨vs⟩) : PartV P t xs off (Ag vs) := fun w => by
  simp only [part, Sem.run_bind, hi, Result.andThen_ok, if_true, hs, Sem.run_pure, h]
def EqV (P : Program) (d : Nat) (t : TypeId) (x y : Value) (r : Bool) : Prop := ∀ w, (Op.equalIn d t x y).run P w = .ok r w
theorem EqV.int {k : IntKind} {a b : Int} (h : P.underlying t = some (.int k)) : EqV P (d + 1) t (.int k a) (.int k b) (decide (a = b)) := fun w => by
  rw [← Bool.beq_eq_decide_eq]; exact run_equalIn_int w d t k k a b h
theorem EqV.bool {a b : Bool} (h : P.underlying t = some .bool) : EqV P (d + 1) t (.bool a) (.bool b) (decide (a = b)) := fun w => by
  rw [← Bool.beq_eq_decide_eq]; exact run_equalIn_bool' w d t a b h
theorem str_same (a b : ByteArray) : (a.toList == b.toList) = decide (a = b) := by
  rw [Bool.eq_iff_iff, beq_iff_eq, decide_eq_true_iff, ByteArray.toList_eq, ByteArray.toList_eq]
  obtain ⟨⟨x⟩⟩ := a
  obtain ⟨⟨y⟩⟩ := b
  simp
theorem EqV.str {a b : ByteArray} (h : P.underlying t = some .string) : EqV P (d + 1) t (.string a) (.string b) (decide (a = b)) := fun w => by
  rw [← str_same]; exact run_equalIn_string w d t a b h
theorem EqV.u {a b : UInt64} (h : P.underlying t = some (.int .u64)) : EqV P (d + 1) t (U a) (U b) (decide (a = b)) := fun w => by
  have := run_equalIn_int w d t .u64 .u64 (a.toNat : Int) (b.toNat : Int) h
  rw [show ((a.toNat : Int) == (b.toNat : Int)) = decide (a = b) by rw [Bool.eq_iff_iff, beq_iff_eq, decide_eq_true_iff, Int.natCast_inj, UInt64.toNat_inj]] at this
  exact this
theorem EqV.w4 {a b : UInt32} (h : P.underlying t = some (.int .u32)) : EqV P (d + 1) t (W4 a) (W4 b) (decide (a = b)) := fun w => by
  have := run_equalIn_int w d t .u32 .u32 (a.toNat : Int) (b.toNat : Int) h
  rw [show ((a.toNat : Int) == (b.toNat : Int)) = decide (a = b) by rw [Bool.eq_iff_iff, beq_iff_eq, decide_eq_true_iff, Int.natCast_inj, UInt32.toNat_inj]] at this
  exact this
theorem EqV.b8 {a b : UInt8} (h : P.underlying t = some (.int .u8)) : EqV P (d + 1) t (B8 a) (B8 b) (decide (a = b)) := fun w => by
  have := run_equalIn_int w d t .u8 .u8 (a.toNat : Int) (b.toNat : Int) h
  rw [show ((a.toNat : Int) == (b.toNat : Int)) = decide (a = b) by rw [Bool.eq_iff_iff, beq_iff_eq, decide_eq_true_iff, Int.natCast_inj, UInt8.toNat_inj]] at this
  exact this
theorem EqV.cast {r r2 : Bool} (h : EqV P d t x y r) (e : r = r2) : EqV P d t x y r2 := e ▸ h
def EqFs (P : Program) (d : Nat) (xs ys : Array Value) (fs : List Field) (r : Bool) : Prop := ∀ w, (Op.eqFields d xs ys fs).run P w = .ok r w
theorem EqFs.nil : EqFs P d xs ys [] true := fun w => by simp [Op.eqFields]
theorem EqFs.cons {f : Field} {fs : List Field} (hn : (f.name != "_") = true) (h1 : PartV P f.type xs f.offset x) (h2 : PartV P f.type ys f.offset y) (h : EqV P d f.type x y r) (k : EqFs P d xs ys fs s) : EqFs P d xs ys (f :: fs) (r && s) := fun w => by
  have hn' : f.name ≠ "_" := by simpa using hn
  simp only [Op.eqFields, hn', ne_eq, not_false_eq_true, if_true, Sem.run_bind, h1 w, Result.andThen_ok, h2 w, h w]
  cases r <;> simp [k w]
theorem EqV.struct {fs : List Field} (hu : P.underlying t = some (.struct ⟨fs⟩)) (hp : P.stoodInHeld t = false) (h : EqFs P d xs ys fs r) : EqV P (d + 1) t (.agg xs) (.agg ys) r := fun w => by
  have hf : P.fieldsOf t = ⟨fs⟩ := by simp [Program.fieldsOf, hu]
  rw [run_equalIn_struct w d t xs ys (by rw [hu, hf]) hp, hf]
  exact h w
def EqIs (P : Program) (d : Nat) (e : TypeId) (xs ys : Array Value) (n : Nat) : Nat → Nat → Bool → Prop
  | _, 0, r => r = true
  | i, k + 1, r => ∃ x y r1 r2, PartV P e xs (i * n) x ∧ PartV P e ys (i * n) y ∧ EqV P d e x y r1 ∧ EqIs P d e xs ys n (i + 1) k r2 ∧ r = (r1 && r2)
theorem EqIs.nil {e : TypeId} {n i : Nat} : EqIs P d e xs ys n i 0 true := rfl
theorem EqIs.cons {e : TypeId} {n i k : Nat} (h1 : PartV P e xs (i * n) x) (h2 : PartV P e ys (i * n) y) (h : EqV P d e x y r) (h' : EqIs P d e xs ys n (i + 1) k s) : EqIs P d e xs ys n i (k + 1) (r && s) := ⟨_, _, _, _, h1, h2, h, h', rfl⟩
theorem EqV.array {e : TypeId} {len n : Nat} (hu : P.underlying t = some (.array len e)) (hs : ∀ w, (sizeOf e).run P w = .ok n w) (h : EqIs P d e xs ys n 0 len r) : EqV P (d + 1) t (.agg xs) (.agg ys) r := fun w => by
  simp only [Op.equalIn, Sem.run_bind, run_underlying hu, Result.andThen_ok, hs]
  simp only [Std.Legacy.Range.forIn_eq_forIn_range', Std.Legacy.Range.size, Nat.sub_zero, Nat.add_one_sub_one, Nat.div_one]
  clear hu
  generalize 0 = i at h ⊢
  induction len generalizing i r with
  | zero => cases h; simp
  | succ k ih =>
    obtain ⟨x, y, r1, r2, p1, p2, p3, p4, rfl⟩ := h
    simp only [List.range'_succ, List.forIn_cons, Sem.run_bind, p1 w, p2 w, p3 w, Result.andThen_ok]
    cases r1
    · simp
    · simpa using ih (i := i + 1) p4
theorem BinV.eqv (hm : P.eqGuardType P.depth t = false) (h : EqV P 10000 t (.agg xs) (.agg ys) r) : BinV P .eql t (.agg xs) (.agg ys) (.bool r) := fun ox oy w => by
  rw [Sem.run_bind, run_eqGuard_agg w .eql t ox oy xs ys hm, Result.andThen_ok, run_eql_struct, h w]; rfl
theorem BinV.neqv (hm : P.eqGuardType P.depth t = false) (h : EqV P 10000 t (.agg xs) (.agg ys) r) : BinV P .neq t (.agg xs) (.agg ys) (.bool (!r)) := fun ox oy w => by
  rw [Sem.run_bind, run_eqGuard_agg w .neq t ox oy xs ys hm, Result.andThen_ok, run_neq_struct, h w]; rfl
theorem BinV.str_eql {a b : ByteArray} : BinV P .eql t (.string a) (.string b) (.bool (decide (a = b))) := fun ox oy w => by
  have : (a.toList == b.toList) = decide (a = b) := str_same a b
  simp [eqGuard, binOp, Op.stringOp, this]
theorem BinV.str_neq {a b : ByteArray} : BinV P .neq t (.string a) (.string b) (.bool (decide (a ≠ b))) := fun ox oy w => by
  have : (a.toList == b.toList) = decide (a = b) := str_same a b
  simp [eqGuard, binOp, Op.stringOp, this]
theorem BinV.bool_eql {a b : Bool} (hu : P.underlying t = some .bool) : BinV P .eql t (.bool a) (.bool b) (.bool (decide (a = b))) := fun ox oy w => by
  simp [eqGuard, binOp, Op.equal, Op.maxDepth, run_equalIn_bool' w 9999 t a b hu, Bool.beq_eq_decide_eq]
theorem BinV.bool_neq {a b : Bool} (hu : P.underlying t = some .bool) : BinV P .neq t (.bool a) (.bool b) (.bool (decide (a ≠ b))) := fun ox oy w => by
  simp [eqGuard, binOp, Op.equal, Op.maxDepth, run_equalIn_bool' w 9999 t a b hu, Bool.beq_eq_decide_eq]
theorem decide_not' {p : Prop} [Decidable p] : decide (¬ p) = !decide p := decide_not
theorem one_map {α : Type} {f : α → List Value} (h : ∀ x, oneAll (f x) = true) : ∀ l : List α, oneAll ((l.map f).flatten) = true
  | [] => rfl
  | x :: l => by
    have h1 := h x; have h2 := one_map h l
    simp only [oneAll, List.map_cons, List.flatten_cons, List.all_append, Bool.and_eq_true] at *
    exact ⟨h1, h2⟩
end
end Go.Sl
namespace Go.Sl
section
variable {C : Cx} {E E' E1 E2 E3 : List (Nat × Value)} {L L' L1 R R' : List Asn} {K : Act → World → Prop} {Q : Exit → Act → World → Prop}
  {ops : Array Oper} {rest : List Oper} {d : Nat} {v x y u : Value} {ty : TypeId} {pos : String} {aft : Array Edge} {p q : Asn} {b : Nat} {T t : TypeId} {cs cs' : List Value} {off k n sz : Nat} {gd : Option (Nat × Bool)} {xs ys : List (List Value)}
theorem P.iad {o oi : Operand} {s e : TypeId} {len i off' : Nat} {m : Int} (h : Ev E o (N m) E1) (hm : m = i) (h' : Ev E1 oi (pt b off) E') (hu : ∀ w, (underlying s).run C.P w = .ok (.array len e) w)
    (hs : ∀ w, (sizeOf e).run C.P w = .ok n w) (hi : i + 1 ≤ len) (ho : off + i * n = off') : OpP C E ⟨some d, .indexAddr s oi o, ty, pos, aft, gd⟩ (pt b off') E' :=
  P.ia (hm ▸ h) h' hu hs hi ho
/-- A slice of given elements, of the call's own. -/
theorem G.bsln {parts : List (Nat × Operand)} {vs : List Value} {e : TypeId} {z : Value} {len : Nat} (h : Evp E parts vs E') (hu : ∀ w, (underlying t).run C.P w = .ok (.slice e) w) (hs : ∀ w, (sizeOf e).run C.P w = .ok sz w)
    (hz : ∀ w, (zeroValue e).run C.P w = .ok z w) (hf : Instr.fill (fun i => some (i * sz, sz)) ((Array.range (len * sz)).map fun x => z.cells[x % z.cells.size]!) ((parts.map Prod.fst).zip vs) = some ⟨xs.flatten⟩)
    (hl : (xs.all fun x => x.length == sz) = true) (hn : xs.length = len) (hb : Nat.ble (len * sz) 16777216 = true) (hp : Nat.blt 0 (len * sz) = true) (hd : fr E' d C.n.n = true) :
    OpG C Q E L R ⟨some d, .buildSlice t len ⟨parts⟩, ty, pos, aft, gd⟩ (fun _ : Value => True) (fun u => (d, u) :: E') (fun u => lst e sz u xs :: L) (fun _ => R) := fun a w K he hs' k => by
  obtain ⟨h1, h2⟩ := h _ a he
  have hpv : (parts.map fun p => (p.1, a.eval p.2)) = (parts.map Prod.fst).zip vs := by
    rw [← h1, List.zip_map']
  have hb' : ¬ (16777216 : Nat) < len * sz := by
    have := Nat.le_of_ble_eq_true hb; omega
  have h0 : ¬ len * sz = 0 := by
    have : 0 < len * sz := by simpa using hp
    omega
  have hrun : (Instr.buildSlice t len (⟨(parts.map Prod.fst).zip vs⟩)).run C.P w = .ok (.slice (some ⟨w.heap.size, 0, none⟩) len len) { w with heap := w.heap.push (.cells ⟨xs.flatten⟩ e) } := by
    simp only [Instr.buildSlice, Sem.run_bind, hu, hs, Result.andThen_ok]
    simp [hb', h0, hz, hf, newRow]
  have : (execOp a.eval ⟨some d, .buildSlice t len ⟨parts⟩, ty, pos, aft, gd⟩).run C.P w = .ok (.value (.slice (some ⟨w.heap.size, 0, none⟩) len len)) { w with heap := w.heap.push (.cells ⟨xs.flatten⟩ e) } := by
    have hm : (Array.map (fun x => (x.1, a.eval x.2)) ⟨parts⟩ : Array (Nat × Value)) = ⟨(parts.map Prod.fst).zip vs⟩ := by rw [← hpv]; simp
    simp only [execOp, hm]
    rw [Sem.run_bind, hrun]; rfl
  unfold Oper.wp
  rw [this]
  refine k _ trivial _ _ (h2.put hd) ((hs'.new (.cells ⟨xs.flatten⟩ e)).conseq fun hh hb' => ?_)
  have hle : len ≤ len * sz := Nat.le_mul_of_pos_right _ (Nat.pos_of_ne_zero fun e => h0 (by simp [e]))
  refine ⟨by simpa using hl, by omega, .inr ⟨w.heap.size, len, [], [], by rw [hn]; rfl, ?_, by omega, by simp [hn]⟩⟩
  rw [hb']; simp
/-- A slice of no elements. -/
theorem G.bsl0 {e : TypeId} (hu : ∀ w, (underlying t).run C.P w = .ok (.slice e) w) (hs : ∀ w, (sizeOf e).run C.P w = .ok sz w) (hd : fr E d C.n.n = true) :
    OpG C Q E L R ⟨some d, .buildSlice t 0 #[], ty, pos, aft, gd⟩ (fun _ : Value => True) (fun u => (d, u) :: E) (fun u => lst e sz u [] :: L) (fun _ => R) := fun a w K he hs' k => by
  have hrun : (Instr.buildSlice t 0 #[]).run C.P w = .ok (.slice (some ⟨w.heap.size, 0, none⟩) 0 0) { w with heap := w.heap.push (.cells #[] e) } := by
    simp only [Instr.buildSlice, Sem.run_bind, hu, hs, Result.andThen_ok]
    have h0 : Array.range 0 = #[] := by apply Array.eq_empty_of_size_eq_zero; simp
    simp [Instr.fill, newRow, h0]
  have : (execOp a.eval ⟨some d, .buildSlice t 0 #[], ty, pos, aft, gd⟩).run C.P w = .ok (.value (.slice (some ⟨w.heap.size, 0, none⟩) 0 0)) { w with heap := w.heap.push (.cells #[] e) } := by
    simp [execOp, hrun]
  unfold Oper.wp
  rw [this]
  refine k _ trivial _ _ (he.put hd) ((hs'.new (.cells #[] e)).conseq fun hh hb' => ?_)
  refine ⟨by simp, by simp, .inr ⟨w.heap.size, 0, [], [], rfl, ?_, by simp, by simp⟩⟩
  rw [hb']; simp
end
end Go.Sl
