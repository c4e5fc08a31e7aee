/- Entering and leaving a function; calls; loops. -/
import Derived.Test.YtjlalcoommhfoaaGreatSlOps
set_option linter.unusedVariables false
set_option linter.unusedSimpArgs false
namespace Go.Sl

theorem Tk.z {α : Type} {p : α} {L : List α} : Tk p (p :: L) L := .here
theorem Tk.s {α : Type} {p q : α} {L L' : List α} (t : Tk p L L') : Tk p (q :: L) (q :: L') := .there t
theorem Mm.z {α : Type} {p : α} {L : List α} : p ∈ p :: L := List.mem_cons_self
theorem Mm.s {α : Type} {p q : α} {L : List α} (t : p ∈ L) : p ∈ q :: L := List.mem_cons_of_mem _ t

/-- The pieces that a callee is handed, taken out of what there is. -/
def Sp (L A B : List Asn) : Prop := ∀ h, stars L h → stars (A ++ B) h
theorem Sp.nil {L : List Asn} : Sp L [] L := fun _ h => h
theorem Sp.cons {p : Asn} {L L' A B : List Asn} (t : Tk p L L') (s : Sp L' A B) : Sp L (p :: A) B := fun h st => by
  obtain ⟨h1, h2, e, d, hp, hl⟩ := stars_take t st
  exact ⟨h1, h2, e, d, hp, s _ hl⟩
def Rs (R ro : List Asn) : Prop := ∀ r' ∈ ro, ∃ r ∈ R, ∀ h, r h → r' h
theorem Rs.nil {R : List Asn} : Rs R [] := fun _ h => by simp at h
theorem Rs.cons {p : Asn} {R ro : List Asn} (m : p ∈ R) (s : Rs R ro) : Rs R (p :: ro) := fun r hr => by
  rcases List.mem_cons.1 hr with rfl | h
  · exact ⟨r, m, fun _ x => x⟩
  · exact s r h
theorem Rs.imp {p q : Asn} {R ro : List Asn} (m : p ∈ R) (f : ∀ h, p h → q h) (s : Rs R ro) : Rs R (q :: ro) := fun r hr => by
  rcases List.mem_cons.1 hr with rfl | h
  · exact ⟨p, m, f⟩
  · exact s r h
def Evs (E : List (Nat × Value)) (xs : List Operand) (vs : List Value) (E' : List (Nat × Value)) : Prop := ∀ n a, Env n E a → xs.map a.eval = vs ∧ Env n E' a
theorem Evs.nil {E} : Evs E [] [] E := fun _ _ h => ⟨rfl, h⟩
theorem Evs.cons {E E1 E' x v xs vs} (h : Ev E x v E1) (h' : Evs E1 xs vs E') : Evs E (x :: xs) (v :: vs) E' := fun n a e => by
  obtain ⟨h1, h2⟩ := h n a e
  obtain ⟨h3, h4⟩ := h' n a h2
  exact ⟨by simp [h1, h3], h4⟩

/-- A contract whose answer is told by a number of unknowns. -/
def SpecF {α : Type} (P : Program) (f : FuncId) (args : List Value) (own ro : List Asn) (φ : α → Prop) (res : α → Value) (own' ro' : α → List Asn → List Asn) : Prop :=
  Spec P f ⟨args⟩ own ro fun v L' R' => ∃ x, φ x ∧ v = res x ∧ L' = own' x [] ∧ R' = ro' x []

section
variable {C : Cx} {E E' E1 E2 E3 : List (Nat × Value)} {L L' L1 R R' A B ro : List Asn} {K : Act → World → Prop} {Q : Exit → Act → World → Prop}
  {ops : Array Oper} {rest : List Oper} {d : Nat} {v x y : Value} {ty : TypeId} {pos : String} {aft : Array Edge} {p q : Asn} {b : Nat} {T t : TypeId} {cs cs' : List Value} {off k n : Nat}
  {f : FuncId} {args : List Value} {α : Type} {φ : α → Prop} {res : α → Value} {own' ro' : α → List Asn → List Asn} {own : List Asn} {xs : List Operand} {ats : Array TypeId}

theorem run_callOp {P : Program} {a : Act} {w : World} {o : Oper} (hc : ∀ args w, (callFunc f args).run P w = .ok (.enter f args) w) (ho : o.op = .call ⟨.value (.func f), ⟨xs⟩, ats⟩) (he : xs.map a.eval = args) :
    (execOp a.eval o).run P w = .ok (.enter f ⟨args⟩) w := by
  subst he
  simp [execOp, ho, resolve, Deferred.ofValue, Act.eval, invoke, hc]

/-- A call: what is lent to be read comes from what may only be read. -/
theorem G.call {gd : Option (Nat × Bool)} (hc : ∀ args w, (callFunc f args).run C.P w = .ok (.enter f args) w) (ha : Evs E xs args E') (sp : SpecF C.P f args A ro φ res own' ro')
    (hL : Sp L A B) (hR : Rs R ro) (ho : ∀ x M, own' x M = own' x [] ++ M) (hr : ∀ x M, ro' x M = ro' x [] ++ M) (hd : fr E' d C.n.n = true) :
    OpG C Q E L R ⟨some d, .call ⟨.value (.func f), ⟨xs⟩, ats⟩, ty, pos, aft, gd⟩ φ (fun x => (d, res x) :: E') (fun x => own' x B) (fun x => ro' x R) := fun a w K he hs k => by
  obtain ⟨h1, h2⟩ := ha _ a he
  unfold Oper.wp
  rw [run_callOp hc rfl h1, Oper.upon_enter]
  refine Sat.behind (hs.imp hL) hR sp ?_
  rintro v L' R' w' ⟨x, hx, rfl, rfl, rfl⟩ hs'
  rw [← ho, ← hr] at hs'
  exact k x hx _ _ (h2.put hd) hs'
/-- .. or from what is owned. -/
theorem G.calll {gd : Option (Nat × Bool)} (hc : ∀ args w, (callFunc f args).run C.P w = .ok (.enter f args) w) (ha : Evs E xs args E') (sp : SpecF C.P f args A ro φ res own' ro')
    (hL : Sp L A B) (hR : Rs (R ++ B) ro) (ho : ∀ x M, own' x M = own' x [] ++ M) (hd : fr E' d C.n.n = true) :
    OpG C Q E L R ⟨some d, .call ⟨.value (.func f), ⟨xs⟩, ats⟩, ty, pos, aft, gd⟩ φ (fun x => (d, res x) :: E') (fun x => own' x B) (fun _ => R) := fun a w K he hs k => by
  obtain ⟨h1, h2⟩ := ha _ a he
  unfold Oper.wp
  rw [run_callOp hc rfl h1, Oper.upon_enter]
  refine Sat.behind_lent (hs.imp hL) hR sp ?_
  rintro v L' R' w' ⟨x, hx, rfl, rfl, rfl⟩ hs'
  rw [← ho] at hs'
  exact k x hx _ _ (h2.put hd) hs'

/-! ### In and out -/
def mkE : Nat → List Value → List (Nat × Value)
  | _, [] => []
  | i, v :: vs => (i, v) :: mkE (i + 1) vs
theorem env0 (vs : List Value) (n : Nat) (h : vs.length ≤ n) : Env ⟨n, []⟩ (mkE 0 vs) ⟨(⟨vs⟩ : Array Value) ++ Array.replicate (n - vs.length) undef, []⟩ := by
  refine ⟨by simp; omega, rfl, ?_⟩
  have key : ∀ (vs pre : List Value) (i : Nat), pre.length = i → ∀ x ∈ mkE i vs, ((⟨pre ++ vs⟩ : Array Value) ++ Array.replicate (n - (pre ++ vs).length) undef)[x.1]? = some x.2 := by
    intro vs
    induction vs with
    | nil => intro pre i _ x hx; simp [mkE] at hx
    | cons v vs ih =>
      intro pre i hi x hx
      rcases List.mem_cons.1 hx with rfl | hm
      · rw [Array.getElem?_append_left (by simp; omega)]
        simp [← hi]
      · have := ih (pre ++ [v]) (i + 1) (by simp [hi]) x hm
        simpa using this
  exact key vs [] 0 rfl
/-- What a body comes to, for its contract. -/
def Rt (C : Cx) {α : Type} (φ : α → Prop) (res : α → Value) (own' ro' : α → List Asn → List Asn) : Ending → World → Prop :=
  fun e w' => ∃ v L' R', e = .returned v ∧ (∃ x, φ x ∧ v = res x ∧ L' = own' x [] ∧ R' = ro' x []) ∧ Sat C.w0 C.D C.G L' R' w'
/-- What the frame has put off are marks of rounds in which nothing was put off. -/
def Mk (L : List Asn) : List Deferred → Prop
  | [] => True
  | d :: ds => ∃ r, d = ⟨.collected r, #[]⟩ ∧ obj r (.deferred (some [])) ∈ L ∧ Mk L ds
/-- What a body comes to that never panics. -/
def bodyQ (P : Program) (fn : Func) (R : Ending → World → Prop) : Exit → Act → World → Prop
  | .normal, a, w | .ret, a, w => LeavesInM (Fw none) 0 P fn a.tmps R a.defers .returning w
  | _, _, _ => False
theorem bodyQ_M {P : Program} {fn : Func} {R : Ending → World → Prop} : ∀ e a w, bodyQ P fn R e a w → bodyPostM (Fw none) 0 P fn R e a w := fun e a w h => by
  cases e <;> first | exact h | exact h.elim
theorem SpecF.of {P : Program} {fn : Func} {c : Code} {nt : Nat} (hf : P.funcs[f]? = some fn) (hb : fn.body = some c) (hn : fn.ntmps = nt) (hl : Nat.ble args.length nt = true)
    (h : ∀ w0 D G, Post ⟨P, ⟨nt, []⟩, w0, D, G, none⟩ (mkE 0 args) own ro (wq ⟨P, ⟨nt, []⟩, w0, D, G, none⟩ c (bodyQ P fn (Rt ⟨P, ⟨nt, []⟩, w0, D, G, none⟩ φ res own' ro')))) :
    SpecF P f args own ro φ res own' ro' := fun w hp g st hin gin gh hr => by
  subst hn
  refine callsOf (n := 0) (callsIn_of_wp_marks hf hb trivial (wpIn_mono ?_ bodyQ_M))
  refine h w (fun b => hp b ≠ none) (fun b => g b ≠ none) _ w (env0 args _ (by simpa using hl)) ?_
  exact ⟨rfl, rfl, rfl, Nat.le_refl _, fun _ _ _ => rfl, hp, g, st, hin, gin, gh, fun b hb => .inl hb, fun b hb => .inl hb, hr⟩

def RsV (C : Cx) (E : List (Nat × Value)) (L R : List Asn) (rv : ResultVar) (v : Value) : Prop := ∀ a w, Env C.n E a → Sat C.w0 C.D C.G L R w →
  (match rv with | .tmp t => pure (a.tmps.getD t undef) | .cell r t => do loadVar t (← asAddr (a.tmps.getD r undef)) : Sem Value).run C.P w = .ok v w
theorem RsV.tmp {s : Nat} (h : Ev E (.tmp s) v E') : RsV C E L R (.tmp s) v := fun a w he _ => by
  have := (h _ a he).1
  simp only [Act.eval] at this
  simp [this]
theorem RsV.cell {s : Nat} (h : Ev E (.tmp s) (pt b off) E') (tk : Tk (blk b T cs) L L') (hv : LdV C.P t cs off v) : RsV C E L R (.cell s t) v := fun a w he hs => by
  have h1 := (h _ a he).1
  simp only [Act.eval] at h1
  have := hv w b 0 T cs _ (hs.take tk).blk_at (by simp)
  simp only [Nat.zero_add, Instr.loadAt, Instr.sureAddr, Sem.run_bind, Sem.run_pure, Result.andThen_ok] at this
  simp only [h1, asAddr, Sem.run_bind, Sem.run_pure, Result.andThen_ok]
  exact this
def Fin (C : Cx) (fn : Func) (E : List (Nat × Value)) (L R : List Asn) (v : Value) : Prop := ∀ a w, Env C.n E a → Sat C.w0 C.D C.G L R w → (results fn a.tmps).run C.P w = .ok v w
theorem Fin.r0 {fn : Func} (h : fn.results = #[]) : Fin C fn E L R (.tuple #[]) := fun a w _ _ => results_none h _ _ _
def rvG (tmps : Array Value) : ResultVar → Sem Value
  | .tmp t => pure (tmps.getD t undef)
  | .cell r t => do loadVar t (← asAddr (tmps.getD r undef))
theorem run_list {P : Program} {w : World} {g : ResultVar → Sem Value} : ∀ (l : List ResultVar) (vs : List Value), l.length = vs.length →
    (∀ (i : Nat) (r : ResultVar) (v : Value), l[i]? = some r → vs[i]? = some v → (g r).run P w = .ok v w) → (l.mapM g).run P w = .ok vs w := by
  intro l
  induction l with
  | nil => intro vs h _; cases vs <;> simp at h ⊢
  | cons r l ih =>
    intro vs h hh
    cases vs with
    | nil => simp at h
    | cons v vs =>
      have h0 := hh 0 r v rfl rfl
      have h1 := ih vs (by simpa using h) (fun i r v a b => hh (i + 1) r v (by simpa using a) (by simpa using b))
      simp [List.mapM_cons, h0, h1]
theorem Fin.of {fn : Func} (l : List ResultVar) (vs : List Value) (h : fn.results = ⟨l⟩) (hl : l.length = vs.length) (hh : ∀ (i : Nat) (r : ResultVar) (v : Value), l[i]? = some r → vs[i]? = some v → RsV C E L R r v)
    (hv : (if h : (⟨vs⟩ : Array Value).size = 1 then (⟨vs⟩ : Array Value)[0] else .tuple ⟨vs⟩) = v) : Fin C fn E L R v := fun a w he hs => by
  have : (l.mapM (rvG a.tmps)).run C.P w = .ok vs w := run_list l vs hl fun i r v a1 a2 => by
    have := hh i r v a1 a2 a w he hs
    cases r <;> exact this
  have e : results fn a.tmps = (do let vs ← (⟨l⟩ : Array ResultVar).mapM (rvG a.tmps); pure (if h : vs.size = 1 then vs[0] else .tuple vs) : Sem Value) := by
    rw [results, h]; rfl
  rw [e, List.mapM_toArray]
  subst hv
  simp [this]
theorem Fin.r1 {fn : Func} {r1 : ResultVar} (h : fn.results = #[r1]) (h1 : RsV C E L R r1 v) : Fin C fn E L R v :=
  .of [r1] [v] h rfl (fun i r v a b => by
    match i with
    | 0 => simp at a b; subst a; subst b; exact h1
    | i + 1 => simp at a) rfl
theorem Fin.r2 {fn : Func} {r1 r2 : ResultVar} {v1 v2 : Value} (h : fn.results = #[r1, r2]) (h1 : RsV C E L R r1 v1) (h2 : RsV C E L R r2 v2) : Fin C fn E L R (Tu [v1, v2]) :=
  .of [r1, r2] [v1, v2] h rfl (fun i r v a b => by
    match i with
    | 0 => simp at a b; subst a; subst b; exact h1
    | 1 => simp at a b; subst a; subst b; exact h2
    | i + 2 => simp at a) rfl
theorem Fin.r3 {fn : Func} {r1 r2 r3 : ResultVar} {v1 v2 v3 : Value} (h : fn.results = #[r1, r2, r3]) (h1 : RsV C E L R r1 v1) (h2 : RsV C E L R r2 v2) (h3 : RsV C E L R r3 v3) :
    Fin C fn E L R (Tu [v1, v2, v3]) :=
  .of [r1, r2, r3] [v1, v2, v3] h rfl (fun i r v a b => by
    match i with
    | 0 => simp at a b; subst a; subst b; exact h1
    | 1 => simp at a b; subst a; subst b; exact h2
    | 2 => simp at a b; subst a; subst b; exact h3
    | i + 3 => simp at a) rfl
theorem Post.fin {fn : Func} (z : α) (h : Fin C fn E L R (res z)) (hφ : φ z) (ho : own' z [] = L) (hr : ro' z [] = R) (hd : C.n.df = [] := by rfl) : Post C E L R (bodyQ C.P fn (Rt C φ res own' ro') .ret) := fun a w he hs => by
  show LeavesInM _ _ _ _ _ _ a.defers _ _
  rw [he.2.1, hd]
  exact ⟨_, h a w he hs, _, _, _, rfl, ⟨z, hφ, rfl, rfl, rfl⟩, ho ▸ hr ▸ hs⟩
theorem Post.finn {fn : Func} (z : α) (h : Fin C fn E L R (res z)) (hφ : φ z) (ho : own' z [] = L) (hr : ro' z [] = R) (hd : C.n.df = [] := by rfl) : Post C E L R (bodyQ C.P fn (Rt C φ res own' ro') .normal) := fun a w he hs => by
  show LeavesInM _ _ _ _ _ _ a.defers _ _
  rw [he.2.1, hd]
  exact ⟨_, h a w he hs, _, _, _, rfl, ⟨z, hφ, rfl, rfl, rfl⟩, ho ▸ hr ▸ hs⟩
/-- Nothing of what may be read is told at the end. -/
theorem Post.rnil (h : Post C E L [] K) : Post C E L R K := fun a w e s => h a w e (s.ro fun _ h => by simp at h)
theorem Post.lnil0 (h : Post C E [] R K) : Post C E L R K := fun a w e s => h a w e (s.imp fun _ _ => trivial)
end
end Go.Sl
