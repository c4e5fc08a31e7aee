/- The rules of a walk, operation by operation. -/
import Derived.Test.YtjlalcoommhfoaaGreatSlRules
set_option linter.unusedVariables false
set_option linter.unusedSimpArgs false
namespace Go.Sl

abbrev pt (b off : Nat) : Value := .pointer (some ⟨b, off, none⟩)
abbrev nilp : Value := .pointer none
abbrev N (x : Int) : Value := .int .i64 x


abbrev Bo (x : Bool) : Value := .bool x
abbrev Ag (cs : List Value) : Value := .agg ⟨cs⟩
abbrev Tu (cs : List Value) : Value := .tuple ⟨cs⟩
abbrev nilSl : Value := .slice none 0 0
abbrev w64 (x : Int) : Int := IntKind.i64.wrap x
abbrev wu64 (x : Int) : Int := IntKind.u64.wrap x

section
variable {C : Cx} {E E' E1 E2 E3 : List (Nat × Value)} {L L' L1 R R' : List Asn} {K : Act → World → Prop} {Q : Exit → Act → World → Prop}
  {ops : Array Oper} {rest : List Oper} {d : Nat} {v x y : Value} {ty : TypeId} {pos : String} {aft : Array Edge} {p q : Asn} {b : Nat} {T t : TypeId} {cs cs' : List Value} {off k n : Nat} {gd : Option (Nat × Bool)}

/-! ### Values -/
/-- The parts of a literal. -/
def Evp (E : List (Nat × Value)) (ps : List (Nat × Operand)) (vs : List Value) (E' : List (Nat × Value)) : Prop := ∀ n a, Env n E a → ps.map (fun p => a.eval p.2) = vs ∧ Env n E' a
theorem Evp.nil {E} : Evp E [] [] E := fun _ _ h => ⟨rfl, h⟩
theorem Evp.cons {E E1 E' i x v ps vs} (h : Ev E x v E1) (h' : Evp E1 ps vs E') : Evp E ((i, x) :: ps) (v :: vs) E' := fun n a e => by
  obtain ⟨h1, h2⟩ := h n a e
  obtain ⟨h3, h4⟩ := h' n a h2
  exact ⟨by simp [h1, h3], h4⟩
theorem P.mov {o : Operand} (h : Ev E o v E') : OpP C E ⟨some d, .move o, ty, pos, aft, gd⟩ v E' :=
  fun a w he => ⟨by simp only [execOp, (h _ a he).1]; rfl, (h _ a he).2⟩
theorem P.asg {o : Operand} (h : Ev E o v E') : OpP C E ⟨some d, .assign o, ty, pos, aft, gd⟩ v E' :=
  fun a w he => ⟨by simp only [execOp, (h _ a he).1]; rfl, (h _ a he).2⟩

/-! ### Blocks -/
theorem X.box {o : Operand} (h : Ev E o v E') (hc : v.cells = ⟨cs⟩) : OpX C E L R ⟨some d, .box t o, ty, pos, aft, gd⟩ (fun b => pt b 0) (fun b => blk b t cs :: L) E' := fun a w he hs => by
  obtain ⟨h1, h2⟩ := h _ a he
  refine ⟨w.heap.size, _, ?_, h2, hs.new (.cells ⟨cs⟩ t)⟩
  simp [execOp, h1, Instr.box, newVar, newRow, hc]
theorem X.alc {z : Value} (hz : ∀ w, (zeroValue t).run C.P w = .ok z w) (hc : z.cells = ⟨cs⟩) : OpX C E L R ⟨some d, .alloc t, ty, pos, aft, gd⟩ (fun b => pt b 0) (fun b => blk b t cs :: L) E := fun a w he hs => by
  refine ⟨w.heap.size, _, ?_, he, hs.new (.cells ⟨cs⟩ t)⟩
  simp [execOp, Instr.alloc, newVar, newRow, hc, hz]

/-- What a load yields. -/
def LdV (P : Program) (t : TypeId) (cs : List Value) (off : Nat) (v : Value) : Prop :=
  ∀ (w : World) (b o : Nat) (T : TypeId) (all : List Value) (fz : Nat × Nat), w.heap[b]? = some (.cells ⟨all⟩ T fz) → cs <+: all.drop o → (Instr.loadAt t (pt b (o + off))).run P w = .ok v w
theorem cell_at {w : World} {b i : Nat} {T : TypeId} {all : List Value} {fz : Nat × Nat} (h : w.heap[b]? = some (.cells ⟨all⟩ T fz)) : w.cell? ⟨b, i, none⟩ = all[i]? := by
  simp [World.cell?, h]
theorem pre_get {cs all : List Value} {o i : Nat} {v : Value} (hp : cs <+: all.drop o) (h : cs[i]? = some v) : all[o + i]? = some v := by
  obtain ⟨r, hr⟩ := hp
  have := congrArg (fun l => l[i]?) hr
  simp only [List.getElem?_drop] at this
  rw [← this, List.getElem?_append_left (List.getElem?_eq_some_iff.1 h).1, h]
theorem addr_add (b o i : Nat) : (⟨b, o, none⟩ : Addr).add i = ⟨b, o + i, none⟩ := by unfold Addr.add; split <;> simp_all
theorem LdV.one {P : Program} (hi : ∀ w, (isAgg t).run P w = .ok false w) (h : cs[off]? = some v) : LdV P t cs off v := fun w b o T all fz hb hp => by
  have hc : w.cell? ⟨b, o + off, none⟩ = some v := by rw [cell_at hb]; exact pre_get hp h
  simp [Instr.loadAt, Instr.sureAddr, loadVar, hi, hc]
theorem LdV.agg {P : Program} {vs : List Value} (hi : ∀ w, (isAgg t).run P w = .ok true w) (hs : ∀ w, (sizeOf t).run P w = .ok n w)
    (h : (cs.drop off).take n = vs) (hn : vs.length = n) : LdV P t cs off (Ag vs) := fun w b o T all fz hb hp => by
  have hl := run_loadCells_list (P := P) (w := w) ⟨b, o + off, none⟩ vs (fun j u hj => by
    rw [addr_add, cell_at hb, Nat.add_assoc]
    refine pre_get hp ?_
    have hlt : j < n := by have := (List.getElem?_eq_some_iff.1 hj).1; omega
    rw [← h, List.getElem?_take_of_lt hlt, List.getElem?_drop] at hj
    exact hj)
  simp only [Instr.loadAt, Instr.sureAddr, loadVar, Sem.run_bind, Sem.run_pure, Result.andThen_ok, hi, hs, if_true]
  rw [← hn, hl]
  rfl
theorem V.ld {o : Operand} (h : Ev E o (pt b off) E') (tk : Tk (blk b T cs) L L') (hv : LdV C.P t cs off v) : OpV C E L R ⟨some d, .load t o, ty, pos, aft, gd⟩ v E' := fun a w he hs => by
  obtain ⟨h1, h2⟩ := h _ a he
  refine ⟨?_, h2⟩
  have := hv w b 0 T cs _ (hs.take tk).blk_at (by simp)
  simp only [Nat.zero_add] at this
  simp [execOp, h1, this]
/-- A part of a block that may be read: the cells 'cs' from 'o' on. -/
def sub (b o : Nat) (cs : List Value) : Asn := fun h => ∃ T all fz, h = single b (.cells ⟨all⟩ T fz) ∧ cs <+: all.drop o
theorem V.ldr {o : Operand} {ob : Nat} (h : Ev E o (pt b (ob + off)) E') (m : sub b ob cs ∈ R) (hv : LdV C.P t cs off v) : OpV C E L R ⟨some d, .load t o, ty, pos, aft, gd⟩ v E' := fun a w he hs => by
  obtain ⟨h1, h2⟩ := h _ a he
  refine ⟨?_, h2⟩
  obtain ⟨k, ⟨T, all, fz, rfl, hp⟩, hin⟩ := hs.ro_at m
  have := hv w b ob T all fz (hin b _ (by simp [single])) hp
  simp [execOp, h1, this]
theorem V.ldr0 {o : Operand} {ob : Nat} (h : Ev E o (pt b ob) E') (m : sub b ob cs ∈ R) (hv : LdV C.P t cs 0 v) : OpV C E L R ⟨some d, .load t o, ty, pos, aft, gd⟩ v E' :=
  V.ldr (off := 0) h m hv

theorem splice_step (cs : List Value) (v : Value) (vs : List Value) (k : Nat) (h : k < cs.length) :
    (cs.set k v).take (k + 1) ++ vs ++ (cs.set k v).drop (k + 1 + vs.length) = cs.take k ++ (v :: vs) ++ cs.drop (k + (v :: vs).length) := by
  have e1 : (cs.set k v).take (k + 1) = cs.take k ++ [v] := by
    apply List.ext_getElem?
    intro i
    by_cases hi : i < k
    · rw [List.getElem?_take_of_lt (by omega), List.getElem?_set_ne (by omega), List.getElem?_append_left (by simp; omega), List.getElem?_take_of_lt hi]
    · by_cases hk : i = k
      · subst hk
        rw [List.getElem?_take_of_lt (by omega), List.getElem?_set_self h, List.getElem?_append_right (by simp; omega)]
        simp [Nat.min_eq_left (Nat.le_of_lt h)]
      · rw [List.getElem?_eq_none (by simp; omega), List.getElem?_eq_none (by simp; omega)]
  have e2 : (cs.set k v).drop (k + 1 + vs.length) = cs.drop (k + (v :: vs).length) := by
    rw [List.drop_set_of_lt (by omega)]; simp [Nat.add_comm, Nat.add_left_comm]
  rw [e1, e2]; simp
/-- What a store leaves. -/
def oneAll (l : List Value) : Bool := l.all Value.oneCell'
def StV (P : Program) (t : TypeId) (cs : List Value) (off : Nat) (v : Value) (cs' : List Value) : Prop :=
  (∀ w, (sizeOf t).run P w = .ok v.cells.size w) ∧ oneAll v.cells.toList = true ∧ off + v.cells.size ≤ cs.length ∧ cs' = cs.take off ++ v.cells.toList ++ cs.drop (off + v.cells.size)
theorem StV.mk {P : Program} (hs : ∀ w, (sizeOf t).run P w = .ok n w) (hn : v.cells.size = n) (ho : oneAll v.cells.toList = true) (hl : Nat.ble (off + n) cs.length = true)
    (he : cs' = cs.take off ++ v.cells.toList ++ cs.drop (off + n)) : StV P t cs off v cs' := by
  subst hn; exact ⟨hs, ho, by simpa using hl, he⟩
theorem run_storeCells {P : Program} : ∀ (vs : List Value) (w : World) (b o i : Nat) (T : TypeId) (cs : List Value), w.heap[b]? = some (.cells ⟨cs⟩ T (0, 0)) →
    oneAll vs = true → o + i + vs.length ≤ cs.length → ∃ w', (storeCells ⟨b, o, none⟩ vs i).run P w = .ok () w' ∧
      w'.os = w.os ∧ w'.tape = w.tape ∧ w'.output = w.output ∧ w'.heap.size = w.heap.size ∧
      w'.heap[b]? = some (.cells ⟨cs.take (o + i) ++ vs ++ cs.drop (o + i + vs.length)⟩ T (0, 0)) ∧ ∀ j, j ≠ b → w'.heap[j]? = w.heap[j]? := by
  intro vs
  induction vs with
  | nil => intro w b o i T cs hb _ _; exact ⟨w, rfl, rfl, rfl, rfl, rfl, by simpa using hb, fun _ _ => rfl⟩
  | cons v vs ih =>
    intro w b o i T cs hb hone hlen
    simp only [List.length_cons] at hlen
    simp only [oneAll, List.all_cons, Bool.and_eq_true] at hone
    have hlt : b < w.heap.size := (Array.getElem?_eq_some_iff.1 hb).1
    have hcell : w.cell? ⟨b, o + i, none⟩ = some (cs[o + i]'(by omega)) := by rw [cell_at hb]; exact List.getElem?_eq_getElem (by omega)
    have hfz : w.frozen? ⟨b, o + i, none⟩ = false := by simp [World.frozen?, hb]
    have hstore : (store (Addr.add ⟨b, o, none⟩ i) v).run P w = .ok () (w.setCell ⟨b, o + i, none⟩ v) := by
      rw [addr_add, run_store P w _ v _ hone.1]
      simp [hcell, hfz]
    have hb' : (w.setCell ⟨b, o + i, none⟩ v).heap[b]? = some (.cells ⟨cs.set (o + i) v⟩ T (0, 0)) := by
      simp only [World.setCell]
      rw [Array.getElem?_modify, if_pos rfl, hb]
      simp
    obtain ⟨w', hr, e1, e2, e3, e4, e5, e6⟩ := ih (w.setCell ⟨b, o + i, none⟩ v) b o (i + 1) T _ hb' hone.2 (by simp; omega)
    refine ⟨w', ?_, e1, e2, e3, by rw [e4]; simp [World.setCell], ?_, fun j hj => ?_⟩
    · simp only [storeCells, Sem.run_bind, hstore, Result.andThen_ok]
      exact hr
    · rw [e5]
      congr 2
      exact congrArg Array.mk (splice_step cs v vs (o + i) (by omega))
    · rw [e6 j hj]
      simp only [World.setCell]
      rw [Array.getElem?_modify, if_neg (fun e => hj e.symm)]
/-- A store. -/
theorem G.str {o ov : Operand} (h : Ev E ov v E1) (h' : Ev E1 o (pt b off) E') (tk : Tk (blk b T cs) L L') (hv : StV C.P t cs off v cs') :
    OpG C Q E L R ⟨none, .store t o ov, ty, pos, aft, gd⟩ (fun _ : Unit => True) (fun _ => E') (fun _ => blk b T cs' :: L') (fun _ => R) := fun a w K he hs k => by
  obtain ⟨h1, h2⟩ := h _ a he
  obtain ⟨h3, h4⟩ := h' _ a h2
  obtain ⟨hz, hone, hlen, rfl⟩ := hv
  have hst := hs.take tk
  obtain ⟨w', hr, e1, e2, e3, e4, e5, e6⟩ := run_storeCells (P := C.P) v.cells.toList w b off 0 T cs hst.blk_at hone (by simpa using hlen)
  have hrun : (execOp a.eval ⟨none, .store t o ov, ty, pos, aft, gd⟩).run C.P w = .ok .skip w' := by
    simp only [execOp, h1, h3, Instr.storeAt, Instr.sureAddr, storeVar, Sem.run_bind, Sem.run_pure, Result.andThen_ok, hz, ne_eq, not_true_eq_false, if_false]
    rw [hr]; rfl
  unfold Oper.wp
  rw [hrun]
  refine k () trivial _ _ h4 ?_
  refine Sat.put (o := .cells ⟨cs⟩ T (0, 0)) hst _ e1 e2 e3 e4 ?_ e6
  simpa using e5

/-! ### Addresses -/
def FaV (P : Program) (s : TypeId) (f k : Nat) : Prop := ∀ (b off : Nat) (w : World), (Instr.fieldAt s (pt b off) f).run P w = .ok (pt b (off + k)) w
theorem FaV.mk {P : Program} {s : TypeId} {f : Nat} {fs : Array Field} {fd : Field} (hu : ∀ w, (underlying s).run P w = .ok (.struct fs) w) (hf : fs[f]? = some fd)
    (hs : ∀ w, (sizeOf fd.type).run P w = .ok n w) (hn : (n == 0) = false) (hk : fd.offset = k) : FaV P s f k := fun b off w => by
  subst hk
  have hn' : ¬ n = 0 := by simpa using hn
  simp [Instr.fieldAt, hu, hf, Instr.sureAddr, fieldPlace, hs, hn', addr_add]
theorem P.fa {o : Operand} {s : TypeId} {f off' : Nat} (h : Ev E o (pt b off) E') (hf : FaV C.P s f k) (ho : off + k = off') : OpP C E ⟨some d, .fieldAddr s o f, ty, pos, aft, gd⟩ (pt b off') E' := fun a w he => by
  obtain ⟨h1, h2⟩ := h _ a he
  refine ⟨?_, h2⟩
  subst ho
  simp [execOp, h1, hf b off w]
theorem P.nilc {o : Operand} (h : Ev E o (pt b off) E') : OpP C E ⟨some d, .nilCheck o, ty, pos, aft, gd⟩ (pt b off) E' := fun a w he => by
  obtain ⟨h1, h2⟩ := h _ a he
  exact ⟨by simp [execOp, h1], h2⟩
/-- &arr[i], arr an array in a block. -/
theorem P.ia {o oi : Operand} {s e : TypeId} {len i off' : Nat} (h : Ev E o (N i) E1) (h' : Ev E1 oi (pt b off) E') (hu : ∀ w, (underlying s).run C.P w = .ok (.array len e) w)
    (hs : ∀ w, (sizeOf e).run C.P w = .ok n w) (hi : i < len) (ho : off + i * n = off') : OpP C E ⟨some d, .indexAddr s oi o, ty, pos, aft, gd⟩ (pt b off') E' := fun a w he => by
  obtain ⟨h1, h2⟩ := h _ a he
  obtain ⟨h3, h4⟩ := h' _ a h2
  refine ⟨?_, h4⟩
  subst ho
  simp [execOp, h1, h3, Instr.indexAt, asIntOf, hu, Instr.sureAddr, hs, addr_add, hi]

/-! ### Numbers, truth values -/
def BinV (P : Program) (op : BinOp) (t : TypeId) (x y v : Value) : Prop := ∀ (ox oy : Operand) (w : World), (do eqGuard op t ox oy x y; binOp op t x y : Sem Value).run P w = .ok v w
theorem P.bin {o o' : Operand} {op : BinOp} {t t' : TypeId} (h : Ev E o x E1) (h' : Ev E1 o' y E') (hv : BinV C.P op t x y v) : OpP C E ⟨some d, .binOp op t o o' t', ty, pos, aft, gd⟩ v E' := fun a w he => by
  obtain ⟨h1, h2⟩ := h _ a he
  obtain ⟨h3, h4⟩ := h' _ a h2
  refine ⟨?_, h4⟩
  simp only [execOp, h1, h3]
  rw [Sem.run_bind, hv]
  rfl
theorem BinV.add {P} {t : TypeId} {kd : IntKind} {m n : Int} : BinV P .add t (.int kd m) (.int kd n) (.int kd (kd.wrap (m + n))) := fun _ _ w => by simp [eqGuard, binOp, Op.intArith]
theorem BinV.sub {P} {t : TypeId} {kd : IntKind} {m n : Int} : BinV P .sub t (.int kd m) (.int kd n) (.int kd (kd.wrap (m - n))) := fun _ _ w => by simp [eqGuard, binOp, Op.intArith]
theorem BinV.mul {P} {t : TypeId} {kd : IntKind} {m n : Int} : BinV P .mul t (.int kd m) (.int kd n) (.int kd (kd.wrap (m * n))) := fun _ _ w => by simp [eqGuard, binOp, Op.intArith]
theorem BinV.eql {P} {t : TypeId} {kd : IntKind} {m n : Int} : BinV P .eql t (.int kd m) (.int kd n) (.bool (decide (m = n))) := fun _ _ w => by
  simp [eqGuard, binOp, Op.intCmp]; rfl
theorem BinV.neq {P} {t : TypeId} {kd : IntKind} {m n : Int} : BinV P .neq t (.int kd m) (.int kd n) (.bool (decide (m ≠ n))) := fun _ _ w => by
  simp [eqGuard, binOp, Op.intCmp]; rfl
theorem BinV.lss {P} {t : TypeId} {kd : IntKind} {m n : Int} : BinV P .lss t (.int kd m) (.int kd n) (.bool (decide (m < n))) := fun _ _ w => by simp [eqGuard, binOp, Op.intCmp]
theorem BinV.leq {P} {t : TypeId} {kd : IntKind} {m n : Int} : BinV P .leq t (.int kd m) (.int kd n) (.bool (decide (m ≤ n))) := fun _ _ w => by simp [eqGuard, binOp, Op.intCmp]
theorem BinV.gtr {P} {t : TypeId} {kd : IntKind} {m n : Int} : BinV P .gtr t (.int kd m) (.int kd n) (.bool (decide (m > n))) := fun _ _ w => by simp [eqGuard, binOp, Op.intCmp]
theorem BinV.geq {P} {t : TypeId} {kd : IntKind} {m n : Int} : BinV P .geq t (.int kd m) (.int kd n) (.bool (decide (m ≥ n))) := fun _ _ w => by simp [eqGuard, binOp, Op.intCmp]
def bandK (kd : IntKind) (m n : Int) : Int := kd.wrap ((BitVec.ofInt kd.bits m &&& BitVec.ofInt kd.bits n).toNat)
def borK (kd : IntKind) (m n : Int) : Int := kd.wrap ((BitVec.ofInt kd.bits m ||| BitVec.ofInt kd.bits n).toNat)
def bxorK (kd : IntKind) (m n : Int) : Int := kd.wrap ((BitVec.ofInt kd.bits m ^^^ BitVec.ofInt kd.bits n).toNat)
theorem BinV.and {P} {t : TypeId} {kd : IntKind} {m n : Int} : BinV P .and t (.int kd m) (.int kd n) (.int kd (bandK kd m n)) := fun _ _ w => by simp [eqGuard, binOp, Op.intBits, bandK]
theorem BinV.or {P} {t : TypeId} {kd : IntKind} {m n : Int} : BinV P .or t (.int kd m) (.int kd n) (.int kd (borK kd m n)) := fun _ _ w => by simp [eqGuard, binOp, Op.intBits, borK]
theorem BinV.xor {P} {t : TypeId} {kd : IntKind} {m n : Int} : BinV P .xor t (.int kd m) (.int kd n) (.int kd (bxorK kd m n)) := fun _ _ w => by simp [eqGuard, binOp, Op.intBits, bxorK]
theorem BinV.quo {P} {t : TypeId} {kd : IntKind} {m n : Int} (h : n ≠ 0) : BinV P .quo t (.int kd m) (.int kd n) (.int kd (kd.wrap (m.tdiv n))) := fun _ _ w => by simp [eqGuard, binOp, Op.intDiv, h]
theorem BinV.rem {P} {t : TypeId} {kd : IntKind} {m n : Int} (h : n ≠ 0) : BinV P .rem t (.int kd m) (.int kd n) (.int kd (m.tmod n)) := fun _ _ w => by simp [eqGuard, binOp, Op.intDiv, h]
def shlK (kd : IntKind) (m n : Int) : Int := kd.wrap (m * 2 ^ (min n.toNat kd.bits))
def shrK (kd : IntKind) (m n : Int) : Int := m.fdiv (2 ^ (min n.toNat kd.bits))
theorem BinV.shl {P} {t : TypeId} {kd kd' : IntKind} {m n : Int} (h : 0 ≤ n) : BinV P .shl t (.int kd m) (.int kd' n) (.int kd (shlK kd m n)) := fun _ _ w => by
  have : ¬ n < 0 := by omega
  simp [eqGuard, binOp, Op.shift, this, shlK]
theorem BinV.shr {P} {t : TypeId} {kd kd' : IntKind} {m n : Int} (h : 0 ≤ n) : BinV P .shr t (.int kd m) (.int kd' n) (.int kd (shrK kd m n)) := fun _ _ w => by
  have : ¬ n < 0 := by omega
  simp [eqGuard, binOp, Op.shift, this, shrK]
theorem P.not {o : Operand} {z : Bool} {t : TypeId} (h : Ev E o (.bool z) E') : OpP C E ⟨some d, .unOp .not t o, ty, pos, aft, gd⟩ (.bool (!z)) E' := fun a w he => by
  obtain ⟨h1, h2⟩ := h _ a he
  exact ⟨by simp [execOp, h1, Op.unary], h2⟩
theorem P.neg {o : Operand} {m : Int} {kd : IntKind} {t : TypeId} (h : Ev E o (.int kd m) E') : OpP C E ⟨some d, .unOp .neg t o, ty, pos, aft, gd⟩ (.int kd (kd.wrap (0 - m))) E' := fun a w he => by
  obtain ⟨h1, h2⟩ := h _ a he
  exact ⟨by simp [execOp, h1, Op.unary, Op.intArith], h2⟩
theorem P.pick {o o1 o2 : Operand} {z : Bool} (h : Ev E o (.bool z) E1) (h1 : Ev E1 o1 x E2) (h2 : Ev E2 o2 y E') : OpP C E ⟨some d, .pick o o1 o2, ty, pos, aft, gd⟩ (if z then x else y) E' := fun a w he => by
  obtain ⟨a1, a2⟩ := h _ a he
  obtain ⟨a3, a4⟩ := h1 _ a a2
  obtain ⟨a5, a6⟩ := h2 _ a a4
  refine ⟨?_, a6⟩
  cases z <;> simp [execOp, a1, a3, a5, asBool]
theorem P.pickT {o o1 o2 : Operand} (h : Ev E o (.bool true) E1) (h1 : Ev E1 o1 x E') : OpP C E ⟨some d, .pick o o1 o2, ty, pos, aft, gd⟩ x E' := fun a w he => by
  obtain ⟨a1, a2⟩ := h _ a he
  obtain ⟨a3, a4⟩ := h1 _ a a2
  refine ⟨?_, a4⟩
  simp [execOp, a1, a3, asBool]
theorem P.pickF {o o1 o2 : Operand} (h : Ev E o (.bool false) E1) (h1 : Ev E1 o2 x E') : OpP C E ⟨some d, .pick o o1 o2, ty, pos, aft, gd⟩ x E' := fun a w he => by
  obtain ⟨a1, a2⟩ := h _ a he
  obtain ⟨a3, a4⟩ := h1 _ a a2
  refine ⟨?_, a4⟩
  simp [execOp, a1, a3, asBool]
theorem P.ext {o : Operand} {vs : List Value} {i : Nat} (h : Ev E o (Tu vs) E') (hi : vs[i]? = some v) : OpP C E ⟨some d, .extract o i, ty, pos, aft, gd⟩ v E' := fun a w he => by
  obtain ⟨h1, h2⟩ := h _ a he
  exact ⟨by simp [execOp, h1, Instr.extract, hi], h2⟩
theorem P.cnv {o : Operand} {k' kd : IntKind} {m : Int} {src dst : TypeId} {ds : TypeDesc} (h : Ev E o (.int k' m) E') (hu0 : ∀ w, (underlying src).run C.P w = .ok ds w) (hu : ∀ w, (underlying dst).run C.P w = .ok (.int kd) w) :
    OpP C E ⟨some d, .convert src dst o, ty, pos, aft, gd⟩ (.int kd (kd.wrap m)) E' := fun a w he => by
  obtain ⟨h1, h2⟩ := h _ a he
  refine ⟨?_, h2⟩
  simp [execOp, h1, convert, hu, hu0, Conv.intToInt]
/-- A struct or an array out of its parts. -/
theorem P.bld {t : TypeId} {ps : List (Nat × Operand)} {vs : List Value} (h : Evp E ps vs E') (hb : ∀ w, (Instr.build t ⟨(ps.map (·.1)).zip vs⟩).run C.P w = .ok v w) :
    OpP C E ⟨some d, .build t ⟨ps⟩, ty, pos, aft, gd⟩ v E' := fun a w he => by
  obtain ⟨h1, h2⟩ := h _ a he
  refine ⟨?_, h2⟩
  have := hb w
  simp only [execOp]
  have e : (⟨ps⟩ : Array (Nat × Operand)).map (fun (i, x) => (i, a.eval x)) = ⟨(ps.map (·.1)).zip vs⟩ := by
    rw [← h1]; simp [List.zip_map', List.map_map, Function.comp_def]
  rw [Sem.run_bind, e, this]
  rfl

/-! ### Guards -/
theorem yielded_of {a : Act} {n : Fd} {j s : Nat} {z : Bool} (hj : (ops[j]?).bind (·.dst) = some s) (hm : Ev E (.tmp s) (.bool z) E') (he : Env n E a) : yielded ops a.tmps j = some z := by
  have := (hm n a he).1
  simp only [Act.eval, Array.getD_eq_getD_getElem?] at this
  have h2 : a.tmps[s]? = some (.bool z) := by
    cases h : a.tmps[s]? with
    | none => rw [h] at this; simp [undef] at this
    | some v => rw [h] at this; simpa using this
  simp [yielded, hj, h2]
theorem Post.gyes {o : Op} {dst : Option Nat} {j s : Nat} {z : Bool} (hj : (ops[j]?).bind (·.dst) = some s) (hm : Ev E (.tmp s) (.bool z) E)
    (h : Post C E L R (wL C.P ops Q (⟨dst, o, ty, pos, aft, none⟩ :: rest))) : Post C E L R (wL C.P ops Q (⟨dst, o, ty, pos, aft, some (j, z)⟩ :: rest)) := fun a w he hs => by
  have hp := h a w he hs
  have hy := yielded_of hj hm he
  unfold wL at hp ⊢
  rw [if_pos (by simp [Region.wanted])] at hp
  rw [if_pos (by simp [Region.wanted, hy])]
  exact hp
theorem Post.gno {o : Op} {j s : Nat} {z z' : Bool} (hj : (ops[j]?).bind (·.dst) = some s) (hm : Ev E (.tmp s) (.bool z') E) (hz : (z' == z) = false)
    (hd : (E.all fun x => x.1 != d) = true) (h : Post C E L R (wL C.P ops Q rest)) : Post C E L R (wL C.P ops Q (⟨some d, o, ty, pos, aft, some (j, z)⟩ :: rest)) := fun a w he hs => by
  have hy := yielded_of hj hm he
  unfold wL
  rw [if_neg (by simp only [Region.wanted, hy]; simpa using hz)]
  exact h _ _ (he.putn hd) hs
end
end Go.Sl
