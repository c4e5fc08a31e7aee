/- Pointers that may be nil, with what they own; maps that may be nil; iterators over maps that are empty. -/
import Derived.Test.YtjlalcoommhfoaaGreatSlMap
import Derived.Laws.Cover3
set_option linter.unusedVariables false
set_option linter.unusedSimpArgs false
namespace Go.Sl
/-- A pointer that may be nil, and what hangs on it. F y g M: the block and its parts, ahead of M; bd g: the block. -/
def bx {α γ : Type} (bd : γ → Nat) (F : α → γ → List Asn → List Asn) (z : Value) (x : Option α) : Asn := fun h =>
  match x with
  | none => z = nilp
  | some y => ∃ g : γ, z = pt (bd g) 0 ∧ stars (F y g []) h
/-- A map that may be nil. -/
def mb {α β : Type} (f : α → Value) (g : β → Value) (z : Value) (x : Option (List (α × β))) : Asn := fun h =>
  match x with
  | none => z = .map none
  | some l => ∃ r : Nat, z = .map (some r) ∧ mpo f g r l h
theorem PartV.aggL {P : Program} {t : TypeId} {off n : Nat} {cs vs : List Value} (hi : ∀ w, (isAgg t).run P w = .ok true w) (hs : ∀ w, (sizeOf t).run P w = .ok n w) (h : (cs.drop off).take n = vs) : PartV P t ⟨cs⟩ off (Ag vs) :=
  .agg hi hs (by subst h; apply Array.ext'; simp)
/-- One of several values, by number; the last for all others. -/
def pk (r : Nat) : Nat → List Value → Value
  | _, [] => undef
  | _, [v] => v
  | k, v :: w :: vs => if r = k then v else pk r (k + 1) (w :: vs)
section
variable {C : Cx} {E E' E1 E2 E3 : List (Nat × Value)} {L L' R R' B : List Asn} {K : Act → World → Prop} {Q : Exit → Act → World → Prop}
  {ops : Array Oper} {rest : List Oper} {d b n : Nat} {u v w z x : Value} {ty : TypeId} {pos : String} {aft : Array Edge} {t kt et : TypeId} {gd : Option (Nat × Bool)}
  {α β γ : Type} {bd : γ → Nat} {F : α → γ → List Asn → List Asn} {y : α} {o' : Option α} {fk : α → Value} {fe : β → Value} {l : List (α × β)} {om : Option (List (α × β))} {vs : List Value}
/-- What a pointer that is not nil has is opened. -/
theorem Post.bxo (tk : Tk (bx bd F z o') L L') (hx : o' = some y) (hF : ∀ y g M, F y g M = F y g [] ++ M) (h : ∀ g, z = pt (bd g) 0 → Post C E (F y g L') R K) : Post C E L R K := fun a w he hs => by
  subst hx
  obtain ⟨g, hs⟩ := ((hs.take tk).conseq (q := fun h => ∃ g : γ, z = pt (bd g) 0 ∧ stars (F y g []) h) fun h hh => hh).ex
  have hz := hs.fact fun h hh => hh.1
  have h2 := hs.two (A := F y g []) fun h hh => hh.2
  rw [← hF] at h2
  exact h g hz a w he h2
/-- .. and shut again. -/
theorem Post.bxc (bd : γ → Nat) (F : α → γ → List Asn → List Asn) (g : γ) (y : α) (hz : z = pt (bd g) 0) (sp : Sp L (F y g []) B) (k : Post C E (bx bd F z (some y) :: B) R K) : Post C E L R K := fun a w he hs =>
  k a w he (hs.imp fun h st => by
    obtain ⟨h1, h2, e, d, a1, a2⟩ := stars_append (sp h st)
    exact ⟨h1, h2, e, d, ⟨g, hz, a1⟩, a2⟩)
theorem stars_nilH {p : Asn} {L : List Asn} {h : Hp} (hp : p (fun _ => none)) (s : stars L h) : stars (p :: L) h :=
  ⟨fun _ => none, h, by funext b; simp [un], fun _ => .inl rfl, hp, s⟩
theorem Post.bxn (bd : γ → Nat) (F : α → γ → List Asn → List Asn) (k : Post C E (bx bd F nilp none :: L) R K) : Post C E L R K := fun a w he hs =>
  k a w he (hs.imp fun h st => stars_nilH rfl st)
theorem bx_one {h : Hp} (hh : bx bd F z o' h) : z.oneCell' = true := by
  cases o' with
  | none => cases hh; rfl
  | some y => obtain ⟨g, rfl, _⟩ := hh; rfl
theorem Post.bx1 (tk : Tk (bx bd F z o') L L') (k : z.oneCell' = true → Post C E L R K) : Post C E L R K := .fact tk (fun _ h => bx_one h) k
/-- Is it nil? -/
theorem bx_nil {P : Program} {h : Hp} {t e : TypeId} (hu : P.underlying t = some (.pointer e)) (hh : bx bd F z o' h) : BinV P .eql t z nilp (Bo o'.isNone) ∧ BinV P .neq t z nilp (Bo o'.isSome) := by
  cases o' with
  | none =>
    cases hh
    constructor
    · intro ox oy w
      have h1 : (eqGuard .eql t ox oy nilp nilp).run P w = .ok () w := by simp [eqGuard]
      rw [Sem.run_bind, h1, Result.andThen_ok]
      exact run_eql_pointer_nil w t _ (by rw [hu]; simp [Program.pointee, hu])
    · intro ox oy w
      have h1 : (eqGuard .neq t ox oy nilp nilp).run P w = .ok () w := by simp [eqGuard]
      rw [Sem.run_bind, h1, Result.andThen_ok]
      exact run_neq_pointer_nil w t _ (by rw [hu]; simp [Program.pointee, hu])
  | some y => obtain ⟨g, rfl, _⟩ := hh; exact ⟨.ptr_eql hu, .ptr_neq hu⟩
theorem V.bxe {o1 o2 : Operand} {t t' e : TypeId} (h : Ev E o1 z E1) (h' : Ev E1 o2 nilp E') (tk : Tk (bx bd F z o') L L') (hu : C.P.underlying t = some (.pointer e)) :
    OpV C E L R ⟨some d, .binOp .eql t o1 o2 t', ty, pos, aft, gd⟩ (Bo o'.isNone) E' := fun a w he hs => (P.bin h h' ((hs.take tk).fact fun _ hh => (bx_nil hu hh).1)) a w he
theorem V.bxe' {o1 o2 : Operand} {t t' e : TypeId} (h : Ev E o1 z E1) (h' : Ev E1 o2 nilp E') (tk : Tk (bx bd F z o') L L') (hu : C.P.underlying t = some (.pointer e)) :
    OpV C E L R ⟨some d, .binOp .neq t o1 o2 t', ty, pos, aft, gd⟩ (Bo o'.isSome) E' := fun a w he hs => (P.bin h h' ((hs.take tk).fact fun _ hh => (bx_nil hu hh).2)) a w he
theorem BinV.nil_eql {P : Program} {t e : TypeId} (hu : P.underlying t = some (.pointer e)) : BinV P .eql t nilp nilp (Bo true) :=
  (bx_nil (bd := fun g : Unit => 0) (F := fun (_ : Unit) _ M => M) (o' := none) (h := fun _ => none) hu rfl).1
theorem BinV.nil_neq {P : Program} {t e : TypeId} (hu : P.underlying t = some (.pointer e)) : BinV P .neq t nilp nilp (Bo false) :=
  (bx_nil (bd := fun g : Unit => 0) (F := fun (_ : Unit) _ M => M) (o' := none) (h := fun _ => none) hu rfl).2
/-! ### Maps -/
theorem Post.mbo (tk : Tk (mb fk fe z om) L L') (hx : om = some l) (h : ∀ r : Nat, z = .map (some r) → Post C E (mpo fk fe r l :: L') R K) : Post C E L R K := fun a w he hs => by
  subst hx
  obtain ⟨r, hs⟩ := ((hs.take tk).conseq (q := fun h => ∃ r : Nat, z = .map (some r) ∧ mpo fk fe r l h) fun h hh => hh).ex
  exact h r (hs.fact fun h hh => hh.1) a w he (hs.conseq fun h hh => hh.2)
theorem Post.mbc {r : Nat} (tk : Tk (mpo fk fe r l) L L') (hz : z = .map (some r)) (k : Post C E (mb fk fe z (some l) :: L') R K) : Post C E L R K := fun a w he hs =>
  k a w he ((hs.take tk).conseq fun h hh => ⟨r, hz, hh⟩)
theorem Post.mbn (f : α → Value) (g : β → Value) (k : Post C E (mb f g (.map none) none :: L) R K) : Post C E L R K := fun a w he hs =>
  k a w he (hs.imp fun h st => stars_nilH rfl st)
theorem mb_one {h : Hp} (hh : mb fk fe z om h) : z.oneCell' = true := by
  cases om with
  | none => cases hh; rfl
  | some y => obtain ⟨r, rfl, _⟩ := hh; rfl
theorem Post.mb1 (tk : Tk (mb fk fe z om) L L') (k : z.oneCell' = true → Post C E L R K) : Post C E L R K := .fact tk (fun _ h => mb_one h) k
theorem map_nil {P : Program} {t k e : TypeId} (r : Option Nat) (hu : P.underlying t = some (.map k e)) : BinV P .eql t (.map r) (.map none) (Bo r.isNone) ∧ BinV P .neq t (.map r) (.map none) (Bo r.isSome) := by
  constructor <;> intro ox oy w <;> cases r <;> simp [eqGuard, binOp, run_equal_map_nil w t k e _ hu]
theorem mb_nil {P : Program} {h : Hp} {t k e : TypeId} (hu : P.underlying t = some (.map k e)) (hh : mb fk fe z om h) : BinV P .eql t z (.map none) (Bo om.isNone) ∧ BinV P .neq t z (.map none) (Bo om.isSome) := by
  cases om with
  | none => cases hh; exact map_nil none hu
  | some y => obtain ⟨r, rfl, _⟩ := hh; exact map_nil (some r) hu
theorem V.mbe {o1 o2 : Operand} {t t' k e : TypeId} (h : Ev E o1 z E1) (h' : Ev E1 o2 (.map none) E') (tk : Tk (mb fk fe z om) L L') (hu : C.P.underlying t = some (.map k e)) :
    OpV C E L R ⟨some d, .binOp .eql t o1 o2 t', ty, pos, aft, gd⟩ (Bo om.isNone) E' := fun a w he hs => (P.bin h h' ((hs.take tk).fact fun _ hh => (mb_nil hu hh).1)) a w he
theorem V.mbe' {o1 o2 : Operand} {t t' k e : TypeId} (h : Ev E o1 z E1) (h' : Ev E1 o2 (.map none) E') (tk : Tk (mb fk fe z om) L L') (hu : C.P.underlying t = some (.map k e)) :
    OpV C E L R ⟨some d, .binOp .neq t o1 o2 t', ty, pos, aft, gd⟩ (Bo om.isSome) E' := fun a w he hs => (P.bin h h' ((hs.take tk).fact fun _ hh => (mb_nil hu hh).2)) a w he
/-! ### Which of several -/
theorem Post.pkS {s r k : Nat} (tk : Tk (s, pk r k (v :: w :: vs)) E E') (h0 : decide (r = k) = true → Post C ((s, v) :: E') L R K) (h1 : decide (r = k) = false → Post C ((s, pk r (k + 1) (w :: vs)) :: E') L R K) : Post C E L R K := by
  refine .fst tk ?_
  unfold pk
  by_cases h : r = k
  · rw [if_pos h]; exact h0 (decide_eq_true h)
  · rw [if_neg h]; exact h1 (decide_eq_false h)
theorem Post.ixS {s : Nat} {i : Int} (k : Int) (tk : Tk (s, N i) E E') (h0 : decide (i = k) = true → Post C ((s, N k) :: E') L R K) (h1 : decide (i = k) = false → Post C ((s, N i) :: E') L R K) : Post C E L R K := by
  refine .fst tk ?_
  by_cases h : i = k
  · have := h0 (decide_eq_true h); subst h; exact this
  · exact h1 (decide_eq_false h)
/-- The same of truth values. -/
def pkb (r : Nat) : Nat → List Bool → Bool
  | _, [] => false
  | _, [b] => b
  | k, b :: c :: bs => if r = k then b else pkb r (k + 1) (c :: bs)
theorem pk_two {P : Program} {op : BinOp} {t : TypeId} {r : Nat} {v0 v1 : Value} {b0 b1 : Bool} {k : Nat} (h0 : BinV P op t v0 nilp (Bo b0)) (h1 : BinV P op t v1 nilp (Bo b1)) : BinV P op t (pk r k [v0, v1]) nilp (Bo (pkb r k [b0, b1])) := by
  unfold pk pkb
  by_cases h : r = k
  · rw [if_pos h, if_pos h]; exact h0
  · rw [if_neg h, if_neg h]; exact h1
theorem pk_three {P : Program} {op : BinOp} {t : TypeId} {r : Nat} {v0 v1 v2 : Value} {b0 b1 b2 : Bool} (h0 : BinV P op t v0 nilp (Bo b0)) (h1 : BinV P op t v1 nilp (Bo b1)) (h2 : BinV P op t v2 nilp (Bo b2)) : BinV P op t (pk r 0 [v0, v1, v2]) nilp (Bo (pkb r 0 [b0, b1, b2])) := by
  unfold pk pkb
  by_cases h : r = 0
  · rw [if_pos h, if_pos h]; exact h0
  · rw [if_neg h, if_neg h]; exact pk_two h1 h2
section
variable {γ' : Type} {bd' : γ' → Nat} {α' : Type} {F' : α' → γ' → List Asn → List Asn} {z1 z2 : Value} {x1 : Option α} {x2 : Option α'} {L1 L2 : List Asn} {o1 o2 : Operand} {t t' e : TypeId} {r : Nat}
theorem V.pke2 (h : Ev E o1 (pk r 0 [nilp, z1]) E1) (h' : Ev E1 o2 nilp E') (t1 : Tk (bx bd F z1 x1) L L1) (hu : C.P.underlying t = some (.pointer e)) : OpV C E L R ⟨some d, .binOp .eql t o1 o2 t', ty, pos, aft, gd⟩ (Bo (pkb r 0 [true, x1.isNone])) E' := fun a w he hs =>
  (P.bin h h' (pk_two (.nil_eql hu) ((hs.take t1).fact fun _ hh => (bx_nil hu hh).1))) a w he
theorem V.pke2' (h : Ev E o1 (pk r 0 [nilp, z1]) E1) (h' : Ev E1 o2 nilp E') (t1 : Tk (bx bd F z1 x1) L L1) (hu : C.P.underlying t = some (.pointer e)) : OpV C E L R ⟨some d, .binOp .neq t o1 o2 t', ty, pos, aft, gd⟩ (Bo (pkb r 0 [false, x1.isSome])) E' := fun a w he hs =>
  (P.bin h h' (pk_two (.nil_neq hu) ((hs.take t1).fact fun _ hh => (bx_nil hu hh).2))) a w he
theorem V.pke3 (h : Ev E o1 (pk r 0 [nilp, z1, z2]) E1) (h' : Ev E1 o2 nilp E') (t1 : Tk (bx bd F z1 x1) L L1) (t2 : Tk (bx bd' F' z2 x2) L L2) (hu : C.P.underlying t = some (.pointer e)) : OpV C E L R ⟨some d, .binOp .eql t o1 o2 t', ty, pos, aft, gd⟩ (Bo (pkb r 0 [true, x1.isNone, x2.isNone])) E' := fun a w he hs =>
  (P.bin h h' (pk_three (.nil_eql hu) ((hs.take t1).fact fun _ hh => (bx_nil hu hh).1) ((hs.take t2).fact fun _ hh => (bx_nil hu hh).1))) a w he
theorem V.pke3' (h : Ev E o1 (pk r 0 [nilp, z1, z2]) E1) (h' : Ev E1 o2 nilp E') (t1 : Tk (bx bd F z1 x1) L L1) (t2 : Tk (bx bd' F' z2 x2) L L2) (hu : C.P.underlying t = some (.pointer e)) : OpV C E L R ⟨some d, .binOp .neq t o1 o2 t', ty, pos, aft, gd⟩ (Bo (pkb r 0 [false, x1.isSome, x2.isSome])) E' := fun a w he hs =>
  (P.bin h h' (pk_three (.nil_neq hu) ((hs.take t1).fact fun _ hh => (bx_nil hu hh).2) ((hs.take t2).fact fun _ hh => (bx_nil hu hh).2))) a w he
end
/-- One of several that is known. -/
theorem Post.pkV {s : Nat} (tk : Tk (s, v) E E') (he : v = u) (k : Post C ((s, u) :: E') L R K) : Post C E L R K := .fst tk (he ▸ k)
theorem P.sln3 {o oh om : Operand} {st e : TypeId} {sz : Nat} (h : Ev E o nilSl E1) (h' : Ev E1 oh (N 0) E2) (h'' : Ev E2 om (N 0) E') (hu : ∀ w, (underlying st).run C.P w = .ok (.slice e) w) (hs : ∀ w, (sizeOf e).run C.P w = .ok sz w) :
    OpP C E ⟨some d, .slice st o none (some oh) (some om), ty, pos, aft, gd⟩ nilSl E' := fun a w he => by
  obtain ⟨h1, h2⟩ := h _ a he
  obtain ⟨h3, h4⟩ := h' _ a h2
  obtain ⟨h5, h6⟩ := h'' _ a h4
  refine ⟨?_, h6⟩
  simp [execOp, h1, h3, h5, Instr.sliceAt, Instr.slice, hu, hs, Instr.sliceBounds, Instr.sliceBound, asIntOf]
/-! ### Ranges over empty maps -/
def mit (it r : Nat) : Asn := fun h => ∃ c s, h = single it (.mapIter (some r) c #[] s)
theorem X.rng {o1 : Operand} {r : Nat} (h : Ev E o1 (.map (some r)) E') (tk : Tk (mpo fk fe r l) L L') (hm : C.P.underlying t = some (.map kt et)) :
    OpX C E L R ⟨some d, .range t o1, ty, pos, aft, gd⟩ (fun b => pt b 0) (fun b => mit b r :: L) E' := fun a w he hs => by
  obtain ⟨h1, h2⟩ := h _ a he
  obtain ⟨hp, ⟨es, c, rfl, hx⟩, hin⟩ := (hs.take tk).own_at
  have hb : w.heap[r]? = some (.map ⟨es⟩ c) := hin r _ (by simp [single])
  refine ⟨w.heap.size, _, ?_, h2, (hs.new (.mapIter (some r) c #[] c)).conseq fun h hh => ⟨c, c, hh⟩⟩
  simp only [execOp, h1, Instr.range, Sem.run_bind, run_underlying hm, MapKept.run_getObj_map hb, Result.andThen_ok, Sem.run_pure]
  rfl
theorem V.nxt {o1 : Operand} {r it : Nat} (h : Ev E o1 (pt it 0) E') (tk : Tk (mit it r) L L') (tk2 : Tk (mpo fk fe r []) L' B) :
    OpV C E L R ⟨some d, .next o1 false, ty, pos, aft, gd⟩ (Tu [Bo false]) E' := fun a w he hs => by
  obtain ⟨h1, h2⟩ := h _ a he
  refine ⟨?_, h2⟩
  have hs2 := hs.take tk
  obtain ⟨hp, ⟨c, s, rfl⟩, hin⟩ := hs2.own_at
  have hb : w.heap[it]? = some (.mapIter (some r) c #[] s) := hin it _ (by simp [single])
  obtain ⟨hp2, ⟨es, c2, rfl, hx⟩, hin2⟩ := (hs2.drop.take tk2).own_at
  have hb2 : w.heap[r]? = some (.map ⟨es⟩ c2) := hin2 r _ (by simp [single])
  have he0 : es = [] := by simpa using hx
  subst he0
  have hg : (getObj it).run C.P w = .ok (.mapIter (some r) c #[] s) w := by
    simp [getObj, Sem.run, hb]
  have hf : (Question.mapNext 1).forced = true := by decide
  simp [execOp, h1, Instr.next, hg, MapKept.run_getObj_map hb2, hf]
end
end Go.Sl
