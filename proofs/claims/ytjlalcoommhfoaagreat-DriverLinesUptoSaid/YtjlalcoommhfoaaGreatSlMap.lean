/- Maps: a block of keys and what they have. -/
import Derived.Test.YtjlalcoommhfoaaGreatSlStr
import Derived.MapKept
set_option linter.unusedVariables false
set_option linter.unusedSimpArgs false
namespace Go.Sl
section
variable {C : Cx} {E E' E1 E2 E3 : List (Nat × Value)} {L L' R R' : List Asn} {K : Act → World → Prop} {Q : Exit → Act → World → Prop}
  {ops : Array Oper} {rest : List Oper} {d : Nat} {v x y : Value} {ty : TypeId} {pos : String} {aft : Array Edge} {b : Nat} {t kt et : TypeId} {gd : Option (Nat × Bool)}
  {α β : Type} [DecidableEq α] {f : α → Value} {g : β → Value} {xs : List (α × β)} {k : α} {dsc : TypeDesc}
/-- A map's block. -/
def mpo (f : α → Value) (g : β → Value) (r : Nat) (xs : List (α × β)) : Asn := fun h => ∃ (es : List MapEntry) (c : Nat), h = single r (.map ⟨es⟩ c) ∧ es.map (fun e => (e.key, e.val)) = xs.map fun x => (f x.1, g x.2)
omit [DecidableEq α] in
theorem X.mkm : OpX C E L R ⟨some d, .makeMap t none, ty, pos, aft, gd⟩ (fun b => .map (some b)) (fun b => mpo f g b [] :: L) E := fun a w he hs => by
  refine ⟨w.heap.size, _, ?_, he, (hs.new (.map #[] 0)).conseq (fun h hh => ⟨[], 0, hh, rfl⟩)⟩
  simp [execOp, Instr.makeMap]
/-- What keys are held by. -/
structure KeyV (dsc : TypeDesc) (f : α → Value) : Prop where
  is : ∀ a, MapKept.IsKey dsc (f a)
  now : ∀ a b, Instr.sameNow dsc (f a) (f b) = some (decide (a = b))
def mfind (k : α) : List (α × β) → Nat → Option (Nat × β)
  | [], _ => none
  | (a, y) :: l, i => if k = a then some (i, y) else mfind k l (i + 1)
theorem findNow_map (hk : KeyV dsc f) : ∀ {xs : List (α × β)} {es : List MapEntry} {i : Nat}, es.map (fun e => (e.key, e.val)) = xs.map (fun x => (f x.1, g x.2)) → Instr.findNow dsc (f k) es i = some ((mfind k xs i).map fun p => (p.1, g p.2)) := by
  intro xs
  induction xs with
  | nil => intro es i h; simp at h; subst h; rfl
  | cons x xs ih =>
    intro es i h
    cases es with
    | nil => simp at h
    | cons e es =>
      simp only [List.map_cons, List.cons.injEq, Prod.mk.injEq] at h
      obtain ⟨⟨h1, h2⟩, h3⟩ := h
      obtain ⟨a, y⟩ := x
      unfold Instr.findNow mfind
      rw [h1, hk.now]
      by_cases hka : k = a
      · simp [hka, h2]
      · simp [hka, ih h3]
def mget (k : α) (xs : List (α × β)) : Option β := (mfind k xs 0).map (·.2)
/-- m[k], and whether it is there. -/
theorem V.mlk {o oi : Operand} {mt : TypeId} {z0 : β} (hk : KeyV dsc f) (h : Ev E oi (f k) E1) (h' : Ev E1 o (.map (some b)) E') (tk : Tk (mpo f g b xs) L L')
    (hm : C.P.underlying mt = some (.map kt et)) (hd : C.P.underlying kt = some dsc) (hz : ∀ w, (zeroValue et).run C.P w = .ok (g z0) w) :
    OpV C E L R ⟨some d, .lookup mt o oi true, ty, pos, aft, gd⟩ (Tu [g ((mget k xs).getD z0), Bo (mget k xs).isSome]) E' := fun a w he hs => by
  obtain ⟨h1, h2⟩ := h _ a he
  obtain ⟨h3, h4⟩ := h' _ a h2
  refine ⟨?_, h4⟩
  obtain ⟨hp, ⟨es, c, rfl, hx⟩, hin⟩ := (hs.take tk).own_at
  have hb : w.heap[b]? = some (.map ⟨es⟩ c) := hin b _ (by simp [single])
  have hf := findNow_map (k := k) (i := 0) hk hx
  simp only [execOp, h1, h3, Instr.lookup, Sem.run_bind, run_underlying hm, MapKept.run_getObj_map hb, Result.andThen_ok, Sem.run_pure, MapKept.run_checkKey hd (hk.is k), MapKept.run_findKey hd hf]
  unfold mget
  cases hq : mfind k xs 0 with
  | none => simp [hz]
  | some p => simp
/-- m[k], what is there or nothing. -/
theorem V.mlk1 {o oi : Operand} {mt : TypeId} {z0 : β} (hk : KeyV dsc f) (h : Ev E oi (f k) E1) (h' : Ev E1 o (.map (some b)) E') (tk : Tk (mpo f g b xs) L L')
    (hm : C.P.underlying mt = some (.map kt et)) (hd : C.P.underlying kt = some dsc) (hz : ∀ w, (zeroValue et).run C.P w = .ok (g z0) w) :
    OpV C E L R ⟨some d, .lookup mt o oi false, ty, pos, aft, gd⟩ (g ((mget k xs).getD z0)) E' := fun a w he hs => by
  obtain ⟨h1, h2⟩ := h _ a he
  obtain ⟨h3, h4⟩ := h' _ a h2
  refine ⟨?_, h4⟩
  obtain ⟨hp, ⟨es, c, rfl, hx⟩, hin⟩ := (hs.take tk).own_at
  have hb : w.heap[b]? = some (.map ⟨es⟩ c) := hin b _ (by simp [single])
  have hf := findNow_map (k := k) (i := 0) hk hx
  simp only [execOp, h1, h3, Instr.lookup, Sem.run_bind, run_underlying hm, MapKept.run_getObj_map hb, Result.andThen_ok, Sem.run_pure, MapKept.run_checkKey hd (hk.is k), MapKept.run_findKey hd hf]
  unfold mget
  cases hq : mfind k xs 0 with
  | none => simp [hz]
  | some p => simp
def mset (k : α) (y : β) : List (α × β) → List (α × β)
  | [] => [(k, y)]
  | (a, z) :: l => if k = a then (k, y) :: l else (a, z) :: mset k y l
theorem mfind_none {xs : List (α × β)} : ∀ {i : Nat} {y : β}, mfind k xs i = none → mset k y xs = xs ++ [(k, y)] := by
  induction xs with
  | nil => intro i y _; rfl
  | cons x xs ih =>
    obtain ⟨a, z⟩ := x
    intro i y h
    unfold mfind at h
    by_cases hka : k = a
    · simp [hka] at h
    · rw [if_neg hka] at h
      rw [mset, if_neg hka, ih h]
      rfl
theorem mfind_some {xs : List (α × β)} : ∀ {i j : Nat} {y z : β}, mfind k xs i = some (j, z) → i ≤ j ∧ xs[j - i]? = some (k, z) ∧ mset k y xs = xs.set (j - i) (k, y) := by
  induction xs with
  | nil => intro i j y z h; cases h
  | cons x xs ih =>
    obtain ⟨a, u⟩ := x
    intro i j y z h
    unfold mfind at h
    by_cases hka : k = a
    · rw [if_pos hka] at h
      cases h
      subst hka
      simp [mset]
    · rw [if_neg hka] at h
      obtain ⟨h1, h2, h3⟩ := ih (y := y) h
      have e : j - i = (j - (i + 1)) + 1 := by omega
      rw [e]
      refine ⟨by omega, by simpa using h2, ?_⟩
      rw [mset, if_neg hka, h3]
      rfl
/-- m[k] = y. -/
theorem G.mup {o oi ov : Operand} {mt : TypeId} {y : β} (hk : KeyV dsc f) (hv : Ev E ov (g y) E1) (h : Ev E1 oi (f k) E2) (h' : Ev E2 o (.map (some b)) E') (tk : Tk (mpo f g b xs) L L')
    (hm : C.P.underlying mt = some (.map kt et)) (hd : C.P.underlying kt = some dsc) :
    OpG C Q E L R ⟨none, .mapUpdate mt o oi ov, ty, pos, aft, gd⟩ (fun _ : Unit => True) (fun _ => E') (fun _ => mpo f g b (mset k y xs) :: L') (fun _ => R) := fun a w K he hs kk => by
  obtain ⟨v1, v2⟩ := hv _ a he
  obtain ⟨h1, h2⟩ := h _ a v2
  obtain ⟨h3, h4⟩ := h' _ a h2
  have hst := hs.take tk
  obtain ⟨es, hst⟩ := hst.ex
  obtain ⟨c, hst⟩ := hst.ex
  have hx : es.map (fun e => (e.key, e.val)) = xs.map fun x => (f x.1, g x.2) := hst.fact fun h hh => hh.2
  have hst := hst.conseq (q := obj b (.map ⟨es⟩ c)) fun h hh => hh.1
  have hb := hst.at_
  have hf := findNow_map (k := k) (i := 0) hk hx
  cases hq : mfind k xs 0 with
  | none =>
    rw [hq] at hf
    have hrun : (execOp a.eval ⟨none, .mapUpdate mt o oi ov, ty, pos, aft, gd⟩).run C.P w = .ok .skip { w with heap := w.heap.setIfInBounds b (.map ⟨es ++ [⟨f k, g y, c⟩]⟩ (c + 1)) } := by
      simp only [execOp, v1, h1, h3, Instr.mapUpdate, Sem.run_bind, run_underlying hm, MapKept.run_getObj_map hb, Result.andThen_ok, Sem.run_pure, MapKept.run_checkKey hd (hk.is k), MapKept.run_findKey hd hf]
      simp [MapKept.run_setObj_map _ hb]
    unfold Oper.wp
    rw [hrun]
    have hset := MapKept.heap_set (o' := .map ⟨es ++ [⟨f k, g y, c⟩]⟩ (c + 1)) hb
    have hs2 : Sat C.w0 C.D C.G (obj b (.map ⟨es ++ [⟨f k, g y, c⟩]⟩ (c + 1)) :: L') R { w with heap := w.heap.setIfInBounds b (.map ⟨es ++ [⟨f k, g y, c⟩]⟩ (c + 1)) } := Sat.put hst _ rfl rfl rfl (by simp) hset.1 fun i hi => hset.2 i hi
    refine kk () trivial _ _ h4 (hs2.conseq fun h hh => ⟨_, _, hh, ?_⟩)
    rw [mfind_none hq]
    simp [hx]
  | some p =>
    obtain ⟨j, z⟩ := p
    rw [hq] at hf
    obtain ⟨_, e2, e3⟩ := mfind_some (y := y) hq
    rw [Nat.sub_zero] at e2 e3
    have hj : (es.map (fun e => (e.key, e.val)))[j]? = some (f k, g z) := by rw [hx]; simp [e2]
    obtain ⟨e, he1, he2⟩ : ∃ e, es[j]? = some e ∧ (e.key, e.val) = (f k, g z) := by simpa using hj
    have hkey : e.key = f k := (Prod.mk.inj he2).1
    have hrun : (execOp a.eval ⟨none, .mapUpdate mt o oi ov, ty, pos, aft, gd⟩).run C.P w = .ok .skip { w with heap := w.heap.setIfInBounds b (.map ⟨es.set j { e with key := f k, val := g y }⟩ c) } := by
      have hmod : (⟨es⟩ : Array MapEntry).modify j (fun e => { e with key := f k, val := g y }) = ⟨es.set j { e with key := f k, val := g y }⟩ := by
        apply Array.ext'
        rw [Array.toList_modify]
        apply List.ext_getElem?
        intro n
        rw [List.getElem?_modify, List.getElem?_set]
        by_cases hn : j = n
        · subst hn
          have := (List.getElem?_eq_some_iff.1 he1).1
          rw [he1, if_pos rfl, if_pos this]
          simp
        · simp [hn]
      simp only [execOp, v1, h1, h3, Instr.mapUpdate, Sem.run_bind, run_underlying hm, MapKept.run_getObj_map hb, Result.andThen_ok, Sem.run_pure, MapKept.run_checkKey hd (hk.is k), MapKept.run_findKey hd hf, Option.map_some]
      have ho : (((⟨es⟩ : Array MapEntry)[j]?).map (·.key)).getD (f k) = f k := by simp [he1, hkey]
      rw [ho]
      simp only [MapKept.run_keyThatStays (hk.is k), Result.andThen_ok, hmod]
      simp [MapKept.run_setObj_map _ hb]
    unfold Oper.wp
    rw [hrun]
    have hset := MapKept.heap_set (o' := .map ⟨es.set j { e with key := f k, val := g y }⟩ c) hb
    have hs2 : Sat C.w0 C.D C.G (obj b (.map ⟨es.set j { e with key := f k, val := g y }⟩ c) :: L') R { w with heap := w.heap.setIfInBounds b (.map ⟨es.set j { e with key := f k, val := g y }⟩ c) } := Sat.put hst _ rfl rfl rfl (by simp) hset.1 fun i hi => hset.2 i hi
    refine kk () trivial _ _ h4 (hs2.conseq fun h hh => ⟨_, _, hh, ?_⟩)
    rw [e3, List.map_set, List.map_set, hx]
theorem mset_len (k : α) (y : β) (xs : List (α × β)) : xs.length ≤ (mset k y xs).length ∧ (mset k y xs).length ≤ xs.length + 1 := by
  induction xs with
  | nil => simp [mset]
  | cons x xs ih =>
    obtain ⟨a, z⟩ := x
    unfold mset
    split <;> simp <;> omega
omit [DecidableEq α] in
/-- How many. -/
theorem V.mlen {o : Operand} {st : TypeId} (h : Ev E o (.map (some b)) E') (tk : Tk (mpo f g b xs) L L') (hm : C.P.underlying st = some (.map kt et)) :
    OpV C E L R ⟨some d, .call ⟨.builtin .len, #[o], #[st]⟩, ty, pos, aft, gd⟩ (N (xs.length : Nat)) E' := fun a w he hs => by
  obtain ⟨h1, h2⟩ := h _ a he
  refine ⟨?_, h2⟩
  obtain ⟨hp, ⟨es, c, rfl, hx⟩, hin⟩ := (hs.take tk).own_at
  have hb : w.heap[b]? = some (.map ⟨es⟩ c) := hin b _ (by simp [single])
  have hl : es.length = xs.length := by have := congrArg List.length hx; simpa using this
  simp [execOp, resolve, invoke, builtin, h1, Builtin.len_, run_underlying hm, MapKept.run_getObj_map hb, goInt, hl]
theorem keyInt : KeyV (α := Int) (.int .i64) (fun n => N n) := ⟨fun _ => rfl, fun a b => by simp [Instr.sameNow]; exact Bool.beq_eq_decide_eq a b⟩
theorem keyStr : KeyV (α := ByteArray) .string (fun s => .string s) := ⟨fun _ => trivial, fun a b => by
  obtain ⟨x⟩ := a
  obtain ⟨y⟩ := b
  show some ((x == y : Bool)) = _
  by_cases h : x = y
  · subst h; simp
  · have h' : ¬ ((⟨x⟩ : ByteArray) = ⟨y⟩) := fun e => h (congrArg ByteArray.data e)
    simp [h, h']⟩
end
end Go.Sl
