/- The rules of a walk over the state of SlCore: one for each kind of operation and of code. -/
import Derived.Test.YtjlalcoommhfoaaGreatSlCore
import Derived.TacticsIn
import Derived.LoopNIn
import Derived.OrdersIn
import Derived.RangeFuncLeaves
import Derived.RangeFuncRecord
set_option linter.unusedVariables false
namespace Go.Sl

/-- A frame: how many slots, which calls are put off. -/
structure Fd where
  n : Nat
  df : List Deferred := []
structure Cx where
  P : Program
  n : Fd
  w0 : World
  D : Nat → Prop
  G : Nat → Prop
  r : Option Nat := none
/-- The wide fence, in a round or not. -/
def Fw (r : Option Nat) : Fence := { Fence.wide with round := r }
theorem Fw_fn (r : Option Nat) (f : FuncId) : (Fw r).fn f := trivial
theorem callsFw {r : Option Nat} {n : Nat} {P : Program} {f : FuncId} {args : Array Value} {w : World} {R : Ending → World → Prop} (h : Calls P f args w R) : CallsIn (Fw r) n P f args w R :=
  (callsIn_wide (n := n)).2 h
theorem callsOf {n : Nat} {P : Program} {f : FuncId} {args : Array Value} {w : World} {R : Ending → World → Prop} (h : CallsIn (Fw none) n P f args w R) : Calls P f args w R :=
  (callsIn_wide (n := n)).1 h
theorem rowsFw {r : Option Nat} {n : Nat} {P : Program} {row : String} {args : Array Value} {w : World} {R : Value → World → Prop} (h : Rows P row args w R) : RowsIn (Fw r) n P row args w R :=
  fun c cs _ => let ⟨v, w', hr, hs⟩ := h c cs; ⟨v, w', hr, stepsIn_wide.2 hs⟩
/-- Code in a frame of the context's kind. -/
def wq (C : Cx) (c : Code) (Q : Exit → Act → World → Prop) : Act → World → Prop := fun a w => c.wpIn (Fw C.r) 0 C.P Q a w
/-- Operations one behind the other. -/
def wL (P : Program) (ops : Array Oper) (Q : Exit → Act → World → Prop) : List Oper → Act → World → Prop
  | [], a, w => Q .normal a w
  | o :: rest, a, w => if Region.wanted o (yielded ops a.tmps) then o.wp P a w (wL P ops Q rest) Q else wL P ops Q rest (a.put o.dst undef) w
def nd1 (o : Oper) : Bool := match o.op with | .defer _ => false | _ => true
theorem nd1_spec {o : Oper} (h : nd1 o = true) : ∀ c, o.op ≠ .defer c := fun c e => by simp [nd1, e] at h
def nd (l : List Oper) : Bool := l.all nd1
theorem wL_plain {P : Program} {ops : Array Oper} {Q : Exit → Act → World → Prop} {o : Oper} {rest : List Oper} {a : Act} {w : World} (hg : o.guard = none) (h : ∀ K : Act → World → Prop, (∀ a w, wL P ops Q rest a w → K a w) → o.wp P a w K Q) : wL P ops Q (o :: rest) a w := by
  unfold wL
  rw [if_pos (by simp [Region.wanted, hg])]
  exact h _ fun _ _ h => h
theorem oper_in {r : Option Nat} {P : Program} {o : Oper} {a : Act} {w : World} {K : Act → World → Prop} {Q : Exit → Act → World → Prop} (hd : nd1 o = true) (h : o.wp P a w K Q) : o.wpIn (Fw r) 0 P a w K Q := by
  refine ⟨fun _ _ => trivial, ?_⟩
  unfold Oper.wp at h
  rw [Oper.semAt_eq _ _ _ (nd1_spec hd)]
  generalize (execOp a.eval o).run P w = x at *
  cases x with
  | ok x w' =>
    cases x <;> simp only [Oper.upon, Oper.uponIn] at h ⊢ <;>
      first
        | exact h
        | exact ⟨fun h => by simp [Fw, Fence.wide] at h, callsFw h⟩
        | exact ⟨fun h => by simp [Fw, Fence.wide] at h, rowsFw h⟩
  | halt x w' => cases x <;> simp only [Oper.upon, Oper.uponIn] at h ⊢ <;> exact h
theorem wL_in {r : Option Nat} {P : Program} {ops : Array Oper} {Q : Exit → Act → World → Prop} : ∀ {l : List Oper} {a : Act} {w : World}, nd l = true → wL P ops Q l a w → wpListIn (Fw r) 0 P ops Q l a w
  | [], _, _, _, h => h
  | o :: l, a, w, hd, h => by
    simp only [nd, List.all_cons, Bool.and_eq_true] at hd
    unfold wL at h
    unfold wpListIn
    by_cases hw : Region.wanted o (yielded ops a.tmps) = true
    · rw [if_pos hw] at h ⊢
      exact oper_in hd.1 (Oper.wp_mono (fun a' w' h' => wL_in hd.2 h') h)
    · rw [if_neg hw] at h ⊢
      exact ⟨fun _ _ => trivial, wL_in hd.2 h⟩

def Env (n : Fd) (E : List (Nat × Value)) (a : Act) : Prop := a.tmps.size = n.n ∧ a.defers = n.df ∧ ∀ x ∈ E, a.tmps[x.1]? = some x.2
/-- In every state that is told by E, L, R the rest of the walk holds. -/
def Post (C : Cx) (E : List (Nat × Value)) (L R : List Asn) (K : Act → World → Prop) : Prop :=
  ∀ a w, Env C.n E a → Sat C.w0 C.D C.G L R w → K a w
/-- The state itself, as what a piece of code comes to. -/
def St (C : Cx) (E : List (Nat × Value)) (L R : List Asn) : Act → World → Prop := fun a w => Env C.n E a ∧ Sat C.w0 C.D C.G L R w

/-- An operand's value; what of the slots is still wanted behind it. -/
def Ev (E : List (Nat × Value)) (x : Operand) (v : Value) (E' : List (Nat × Value)) : Prop := ∀ n a, Env n E a → a.eval x = v ∧ Env n E' a
theorem Ev.k {E} {v : Value} : Ev E (.const v) v E := fun _ _ h => ⟨rfl, h⟩
theorem Ev.f {E} {f : FuncId} : Ev E (.func f) (.func (.func f) #[] #[]) E := fun _ _ h => ⟨rfl, h⟩
theorem Ev.g {E} {g : Nat} : Ev E (.global g) (.pointer (some ⟨g, 0, none⟩)) E := fun _ _ h => ⟨rfl, h⟩
theorem Env.tail {n x E a} (h : Env n (x :: E) a) : Env n E a := ⟨h.1, h.2.1, fun y hy => h.2.2 y (List.mem_cons_of_mem _ hy)⟩
theorem Env.head {n x E a} (h : Env n (x :: E) a) : a.tmps[x.1]? = some x.2 := h.2.2 x List.mem_cons_self
theorem Env.cons {n x E a} (h : Env n E a) (e : a.tmps[x.1]? = some x.2) : Env n (x :: E) a :=
  ⟨h.1, h.2.1, fun y hy => by rcases List.mem_cons.1 hy with rfl | hm; exact e; exact h.2.2 y hm⟩
theorem Ev.g0 {E} {t : Nat} {v : Value} : Ev ((t, v) :: E) (.tmp t) v ((t, v) :: E) := fun n a h => ⟨by
  have := h.head; simp only [Act.eval, Array.getD_eq_getD_getElem?] at *; simp [this], h⟩
theorem Ev.t0 {E} {t : Nat} {v : Value} : Ev ((t, v) :: E) (.tmp t) v E := fun n a h => ⟨(Ev.g0 n a h).1, h.tail⟩
theorem Ev.s {E E'} {x : Operand} {v : Value} {y : Nat × Value} (h : Ev E x v E') : Ev (y :: E) x v (y :: E') := fun n a e =>
  let ⟨p, q⟩ := h n a e.tail; ⟨p, q.cons e.head⟩

def fr (E : List (Nat × Value)) (d n : Nat) : Bool := Nat.blt d n && E.all fun x => x.1 != d
theorem Env.put {n : Fd} {E a d v} (h : Env n E a) (f : fr E d n.n = true) : Env n ((d, v) :: E) (a.put (some d) v) := by
  simp only [fr, Bool.and_eq_true, Nat.blt_eq, List.all_eq_true, bne_iff_ne, ne_eq] at f
  obtain ⟨hd, hne⟩ := f
  obtain ⟨h1, h2, h3⟩ := h
  refine ⟨by simp [Act.put, h1], by simp [Act.put, h2], fun x hx => ?_⟩
  rcases List.mem_cons.1 hx with rfl | hm
  · simp only [Act.put]
    rw [Array.getElem?_setIfInBounds_self_of_lt (by omega)]
  · simp only [Act.put]
    rw [Array.getElem?_setIfInBounds_ne (fun e => hne x hm e.symm)]
    exact h3 x hm
theorem Env.putn {n E a d v} (h : Env n E a) (f : (E.all fun x => x.1 != d) = true) : Env n E (a.put (some d) v) := by
  simp only [List.all_eq_true, bne_iff_ne, ne_eq] at f
  obtain ⟨h1, h2, h3⟩ := h
  refine ⟨by simp [Act.put, h1], by simp [Act.put, h2], fun x hx => ?_⟩
  simp only [Act.put]
  rw [Array.getElem?_setIfInBounds_ne (fun e => f x hx e.symm)]
  exact h3 x hx

section
variable {C : Cx} {E E' E1 E2 E3 : List (Nat × Value)} {L L' L1 R R' : List Asn} {K : Act → World → Prop} {Q : Exit → Act → World → Prop}
  {ops : Array Oper} {rest : List Oper} {d : Nat} {v x y : Value} {ty : TypeId} {pos : String} {aft : Array Edge} {p q : Asn} {b : Nat}

/-! ### Code -/
theorem Post.seq {c c' : Code} (h : Post C E L R (wq C c (Exit.then (wq C c' Q) Q))) : Post C E L R (wq C (Code.seq c c') Q) :=
  fun a w he hs => wpIn_seq (h a w he hs)
theorem Post.reg {id : Nat} {l : List Oper} (hn : nd l = true) (h : Post C E L R (wL C.P l.toArray Q l)) : Post C E L R (wq C (Code.region id l.toArray false) Q) :=
  fun a w he hs => wpIn_region_lit (wL_in hn (h a w he hs))
theorem Post.nil (h : Post C E L R (Q .normal)) : Post C E L R (wL C.P ops Q []) := fun a w he hs => h a w he hs
theorem Post.then (h : Post C E L R K) : Post C E L R (Exit.then K Q .normal) := h
theorem Post.skip (h : Post C E L R (Q .normal)) : Post C E L R (wq C Code.skip Q) := fun a w he hs => wpIn_skip (h a w he hs)
theorem Post.ret (h : Post C E L R (Q .ret)) : Post C E L R (wq C Code.ret Q) := fun a w he hs => wpIn_ret (h a w he hs)
theorem Post.exit {id : Nat} (h : Post C E L R (Q (.exit id))) : Post C E L R (wq C (Code.exit id) Q) := fun a w he hs => wpIn_exit (h a w he hs)
theorem Post.block {id : Nat} {c : Code} (h : Post C E L R (wq C c (Exit.inBlock id Q))) : Post C E L R (wq C (Code.block id c) Q) :=
  fun a w he hs => wpIn_block (h a w he hs)
theorem Post.inb {id : Nat} (h : Post C E L R (Q .normal)) : Post C E L R (Exit.inBlock id Q (.exit id)) :=
  fun a w he hs => by simp only [Exit.inBlock, if_true]; exact h a w he hs
theorem Post.outb {id id' : Nat} (hne : (id' == id) = false) (h : Post C E L R (Q (.exit id'))) : Post C E L R (Exit.inBlock id Q (.exit id')) :=
  fun a w he hs => by
    have : id' ≠ id := by simpa using hne
    simp only [Exit.inBlock, this, if_false]; exact h a w he hs
theorem Post.cond {c : Operand} {s t : Code} {z : Bool} (he : Ev E c (.bool z) E') (ht : z = true → Post C E' L R (wq C s Q))
    (hf : z = false → Post C E' L R (wq C t Q)) : Post C E L R (wq C (Code.cond c s t) Q) := fun a w e hs =>
  let ⟨hc, e'⟩ := he _ a e
  wpIn_cond_split hc (fun h => ht h a w e' hs) (fun h => hf h a w e' hs)
theorem Post.condT {c : Operand} {s t : Code} (he : Ev E c (.bool true) E') (ht : Post C E' L R (wq C s Q)) : Post C E L R (wq C (Code.cond c s t) Q) :=
  .cond he (fun _ => ht) (fun h => by cases h)
theorem Post.condF {c : Operand} {s t : Code} (he : Ev E c (.bool false) E') (ht : Post C E' L R (wq C t Q)) : Post C E L R (wq C (Code.cond c s t) Q) :=
  .cond he (fun h => by cases h) (fun _ => ht)
/-- Ways meet again: what holds there is told once. -/
theorem Post.cut {c c' : Code} {J : Act → World → Prop} (h1 : Post C E L R (wq C c (Exit.then J Q))) (h2 : ∀ a w, J a w → wq C c' Q a w) :
    Post C E L R (wq C (Code.seq c c') Q) := fun a w he hs => wpIn_seq (wpIn_mono (h1 a w he hs) fun e a w q => by cases e <;> first | exact h2 a w q | exact q)
theorem St.ok (h : Post C E L R K) : ∀ a w, St C E L R a w → K a w := fun a w ⟨e, s⟩ => h a w e s
theorem Post.st : Post C E L R (St C E L R) := fun _ _ e s => ⟨e, s⟩
theorem Post.stThen : Post C E L R (Exit.then (St C E L R) Q .normal) := fun _ _ e s => ⟨e, s⟩

theorem least {p : Nat → Prop} : ∀ n, p n → ∃ k, p k ∧ ∀ j, p j → k ≤ j := by
  intro n
  induction n using Nat.strongRecOn with
  | _ n ih =>
    intro hn
    by_cases h : ∃ m, m < n ∧ p m
    · obtain ⟨m, hm, hp⟩ := h; exact ih m hm hp
    · exact ⟨n, hn, fun j hj => Nat.le_of_not_lt fun hl => h ⟨j, hl, hj⟩⟩
/-- A loop that a number lowers, which stands nowhere. -/
theorem wpIn_loop_by {F : Fence} {n0 : Nat} {P : Program} {c : Code} {a : Act} {w : World} (Inv : Nat → Act → World → Prop) (n : Nat) (h0 : Inv n a w)
    (round : ∀ k a w, Inv k a w → c.wpIn F n0 P (Exit.then (fun a' w' => ∃ j, j < k ∧ Inv j a' w') Q) a w) : (Code.loop c).wpIn F n0 P Q a w := by
  classical
  let μ : Act → World → Nat := fun a w => if h : ∃ k, Inv k a w ∧ ∀ j, Inv j a w → k ≤ j then Classical.choose h else 0
  have hμ : ∀ a w, (∃ k, Inv k a w) → Inv (μ a w) a w ∧ ∀ j, Inv j a w → μ a w ≤ j := fun a w ⟨k, hk⟩ => by
    have h := least (p := fun k => Inv k a w) k hk
    have : μ a w = Classical.choose h := by simp only [μ]; rw [dif_pos h]
    rw [this]
    exact Classical.choose_spec h
  refine wpIn_loop (fun a w => ∃ k, Inv k a w) μ ⟨n, h0⟩ fun a w hI => ?_
  obtain ⟨h1, h2⟩ := hμ a w hI
  refine wpIn_mono (round _ a w h1) fun e a' w' q => ?_
  cases e <;> first | exact q | skip
  obtain ⟨j, hj, hi⟩ := q
  exact ⟨⟨j, hi⟩, Nat.lt_of_le_of_lt ((hμ a' w' ⟨j, hi⟩).2 j hi) hj⟩

/-! ### What is known is turned -/
theorem Post.drop {e : Nat × Value} (t : Tk e E E') (h : Post C E' L R K) : Post C E L R K := fun a w ⟨h1, h2, h3⟩ hs => by
  obtain ⟨A, B, rfl, rfl⟩ := t
  exact h a w ⟨h1, h2, fun x hx => h3 x (by rcases List.mem_append.1 hx with m | m <;> simp [m])⟩ hs
theorem Post.fst {e : Nat × Value} (t : Tk e E E') (h : Post C (e :: E') L R K) : Post C E L R K := fun a w ⟨h1, h2, h3⟩ hs => by
  obtain ⟨A, B, rfl, rfl⟩ := t
  exact h a w ⟨h1, h2, fun x hx => h3 x (by
    rcases List.mem_cons.1 hx with m | m
    · simp [m]
    · rcases List.mem_append.1 m with m | m <;> simp [m])⟩ hs
theorem Post.lfst (t : Tk p L L') (h : Post C E (p :: L') R K) : Post C E L R K := fun a w e s => h a w e (s.take t)
theorem Post.ldrop (t : Tk p L L') (h : Post C E L' R K) : Post C E L R K := fun a w e s => h a w e (s.take t).drop
theorem Post.freeze (t : Tk p L L') (h : Post C E L' (p :: R) K) : Post C E L R K := fun a w e s => h a w e (s.take t).freeze
theorem Post.conseq (t : Tk p L L') (f : ∀ h, p h → q h) (h : Post C E (q :: L') R K) : Post C E L R K := fun a w e s => h a w e ((s.take t).conseq f)
theorem Post.fact (t : Tk p L L') {φ : Prop} (f : ∀ h, p h → φ) (h : φ → Post C E L R K) : Post C E L R K := fun a w e s => h ((s.take t).fact f) a w e s
theorem Post.rfact (m : p ∈ R) {φ : Prop} (f : ∀ h, p h → φ) (h : φ → Post C E L R K) : Post C E L R K := fun a w e s => h (s.rfact m f) a w e s
theorem Post.ex {α : Type} {r : α → Asn} (t : Tk (fun h => ∃ x, r x h) L L') (h : ∀ x, Post C E (r x :: L') R K) : Post C E L R K :=
  fun a w e s => let ⟨x, hx⟩ := (s.take t).ex; h x a w e hx
theorem Post.radd (m : p ∈ R) (f : ∀ h, p h → q h) (h : Post C E L (q :: R) K) : Post C E L R K := fun a w e s =>
  h a w e (s.ro fun r hr => by rcases List.mem_cons.1 hr with rfl | hm; exact ⟨p, m, f⟩; exact ⟨r, hm, fun _ x => x⟩)
/-- One boolean, both ways. -/
theorem Post.split {s : Nat} {z : Bool} (tk : Tk (s, .bool z) E E') (t : z = true → Post C ((s, .bool true) :: E') L R K) (f : z = false → Post C ((s, .bool false) :: E') L R K) : Post C E L R K :=
  .fst tk (by cases z; exact f rfl; exact t rfl)

/-! ### Operations -/
/-- An operation that leaves the world alone, and its value. -/
def OpV (C : Cx) (E : List (Nat × Value)) (L R : List Asn) (o : Oper) (v : Value) (E' : List (Nat × Value)) : Prop :=
  ∀ a w, Env C.n E a → Sat C.w0 C.D C.G L R w → (execOp a.eval o).run C.P w = .ok (.value v) w ∧ Env C.n E' a
/-- An operation whose value hangs on its operands alone. -/
def OpP (C : Cx) (E : List (Nat × Value)) (o : Oper) (v : Value) (E' : List (Nat × Value)) : Prop :=
  ∀ a w, Env C.n E a → (execOp a.eval o).run C.P w = .ok (.value v) w ∧ Env C.n E' a
theorem OpP.toV {o : Oper} (h : OpP C E o v E') : OpV C E L R o v E' := fun a w he _ => h a w he
/-- An operation that turns the world, and yields what is not known ahead. -/
def OpX (C : Cx) {α : Type} (E : List (Nat × Value)) (L R : List Asn) (o : Oper) (V : α → Value) (LX : α → List Asn) (E' : List (Nat × Value)) : Prop :=
  ∀ a w, Env C.n E a → Sat C.w0 C.D C.G L R w → ∃ x w', (execOp a.eval o).run C.P w = .ok (.value (V x)) w' ∧ Env C.n E' a ∧ Sat C.w0 C.D C.G (LX x) R w'
/-- What any operation does. -/
def OpG (C : Cx) (Q : Exit → Act → World → Prop) {α : Type} (E : List (Nat × Value)) (L R : List Asn) (o : Oper) (φ : α → Prop) (EX : α → List (Nat × Value)) (LX RX : α → List Asn) : Prop :=
  ∀ a w (K : Act → World → Prop), Env C.n E a → Sat C.w0 C.D C.G L R w → (∀ x, φ x → ∀ a' w', Env C.n (EX x) a' → Sat C.w0 C.D C.G (LX x) (RX x) w' → K a' w') → o.wp C.P a w K Q
theorem OpV.g {o : Op} {gd : Option (Nat × Bool)} (h : OpV C E L R ⟨some d, o, ty, pos, aft, gd⟩ v E') (hd : fr E' d C.n.n = true) :
    OpG C Q E L R ⟨some d, o, ty, pos, aft, gd⟩ (fun _ : Unit => True) (fun _ => (d, v) :: E') (fun _ => L) (fun _ => R) := fun a w K he hs k => by
  obtain ⟨hr, he'⟩ := h a w he hs
  unfold Oper.wp
  rw [hr]
  exact k () trivial _ _ (he'.put hd) hs
theorem OpX.g {α : Type} {V : α → Value} {LX : α → List Asn} {o : Op} {gd : Option (Nat × Bool)} (h : OpX C E L R ⟨some d, o, ty, pos, aft, gd⟩ V LX E') (hd : fr E' d C.n.n = true) :
    OpG C Q E L R ⟨some d, o, ty, pos, aft, gd⟩ (fun _ => True) (fun x => (d, V x) :: E') LX (fun _ => R) := fun a w K he hs k => by
  obtain ⟨x, w', hr, he', hs'⟩ := h a w he hs
  unfold Oper.wp
  rw [hr]
  exact k x trivial _ _ (he'.put hd) hs'
/-- In a region whose order is that of the text. -/
theorem Post.op {o : Op} (h : OpV C E L R ⟨some d, o, ty, pos, aft, none⟩ v E') (hd : fr E' d C.n.n = true) (k : Post C ((d, v) :: E') L R (wL C.P ops Q rest)) :
    Post C E L R (wL C.P ops Q (⟨some d, o, ty, pos, aft, none⟩ :: rest)) := fun a w he hs => by
  obtain ⟨hr, he'⟩ := h a w he hs
  refine wL_plain rfl fun K hK => ?_
  unfold Oper.wp
  rw [hr]
  exact hK _ _ (k _ _ (he'.put hd) hs)
theorem Post.opp {o : Op} (h : OpP C E ⟨some d, o, ty, pos, aft, none⟩ v E') (hd : fr E' d C.n.n = true) (k : Post C ((d, v) :: E') L R (wL C.P ops Q rest)) :
    Post C E L R (wL C.P ops Q (⟨some d, o, ty, pos, aft, none⟩ :: rest)) := .op h.toV hd k
theorem OpP.g {o : Op} {gd : Option (Nat × Bool)} (h : OpP C E ⟨some d, o, ty, pos, aft, gd⟩ v E') (hd : fr E' d C.n.n = true) :
    OpG C Q E L R ⟨some d, o, ty, pos, aft, gd⟩ (fun _ : Unit => True) (fun _ => (d, v) :: E') (fun _ => L) (fun _ => R) := h.toV.g hd
/-- A value that nobody looks at. -/
theorem Post.op0 {o : Op} (h : OpV C E L R ⟨some d, o, ty, pos, aft, none⟩ v E') (hd : (E'.all fun x => x.1 != d) = true) (k : Post C E' L R (wL C.P ops Q rest)) :
    Post C E L R (wL C.P ops Q (⟨some d, o, ty, pos, aft, none⟩ :: rest)) := fun a w he hs => by
  obtain ⟨hr, he'⟩ := h a w he hs
  refine wL_plain rfl fun K hK => ?_
  unfold Oper.wp
  rw [hr]
  exact hK _ _ (k _ _ (he'.putn hd) hs)
theorem Post.opg {α : Type} {φ : α → Prop} {EX : α → List (Nat × Value)} {LX RX : α → List Asn} {o : Oper} (h : OpG C Q E L R o φ EX LX RX) (hg : o.guard = none)
    (k : ∀ x, φ x → Post C (EX x) (LX x) (RX x) (wL C.P ops Q rest)) : Post C E L R (wL C.P ops Q (o :: rest)) := fun a w he hs =>
  wL_plain hg fun K hK => h a w K he hs fun x hx a' w' he' hs' => hK _ _ (k x hx a' w' he' hs')
theorem Post.opx {α : Type} {V : α → Value} {LX : α → List Asn} {o : Op} (h : OpX C E L R ⟨some d, o, ty, pos, aft, none⟩ V LX E') (hd : fr E' d C.n.n = true)
    (k : ∀ x, Post C ((d, V x) :: E') (LX x) R (wL C.P ops Q rest)) : Post C E L R (wL C.P ops Q (⟨some d, o, ty, pos, aft, none⟩ :: rest)) :=
  .opg (OpX.g h hd) rfl fun x _ => k x
end
attribute [irreducible] wL
end Go.Sl
