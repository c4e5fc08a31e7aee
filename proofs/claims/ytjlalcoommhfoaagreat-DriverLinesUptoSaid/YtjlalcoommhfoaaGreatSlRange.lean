/- Closures; ranges over functions: the iterator is walked in the caller's state, each round in a frame of the caller's. -/
import Derived.Test.YtjlalcoommhfoaaGreatSlMem
set_option linter.unusedVariables false
set_option linter.unusedSimpArgs false
namespace Go.Sl
abbrev fnv (f : Nat) (caps : List Value) : Value := .func (.func f) #[] ⟨caps⟩
abbrev yv (l : Nat) : Value := .func (.yield l) #[] #[]
section
variable {C : Cx} {E E' E0 E1 E2 E3 : List (Nat × Value)} {L L' L1 R R' A B ro : List Asn} {K : Act → World → Prop} {Q : Exit → Act → World → Prop}
  {ops : Array Oper} {rest : List Oper} {d : Nat} {v x y u : Value} {ty : TypeId} {pos : String} {aft : Array Edge} {p q : Asn} {b : Nat} {T t : TypeId} {cs cs' : List Value} {off k n sz : Nat} {gd : Option (Nat × Bool)} {xs : List Operand} {ats : Array TypeId}
  {f : FuncId} {args caps : List Value} {α : Type} {φ : α → Prop} {res : α → Value} {own' ro' : α → List Asn → List Asn} {own : List Asn}
theorem P.mkf {ps : List Operand} {vs : List Value} (h : Evs E ps vs E') : OpP C E ⟨some d, .makeFunc (.func f) #[] ⟨ps⟩, ty, pos, aft, gd⟩ (fnv f vs) E' := fun a w he => by
  obtain ⟨h1, h2⟩ := h _ a he
  refine ⟨?_, h2⟩
  simp [execOp, Instr.makeFunc, h1]
theorem run_callV {P : Program} {a : Act} {w : World} {o : Oper} {fop : Operand} (hc : ∀ args w, (callFunc f args).run P w = .ok (.enter f args) w) (ho : o.op = .call ⟨.value fop, ⟨xs⟩, ats⟩)
    (hf : a.eval fop = fnv f caps) (he : xs.map a.eval = args) : (execOp a.eval o).run P w = .ok (.enter f ⟨args ++ caps⟩) w := by
  subst he
  simp [execOp, ho, resolve, Deferred.ofValue, hf, invoke, hc]
/-- A call through a closure. -/
theorem G.callv {fop : Operand} (hc : ∀ args w, (callFunc f args).run C.P w = .ok (.enter f args) w) (hv : Ev E fop (fnv f caps) E0) (ha : Evs E0 xs args E') (sp : SpecF C.P f (args ++ caps) A ro φ res own' ro')
    (hL : Sp L A B) (hR : Rs R ro) (ho : ∀ x M, own' x M = own' x [] ++ M) (hr : ∀ x M, ro' x M = ro' x [] ++ M) (hd : fr E' d C.n.n = true) :
    OpG C Q E L R ⟨some d, .call ⟨.value fop, ⟨xs⟩, ats⟩, ty, pos, aft, gd⟩ φ (fun x => (d, res x) :: E') (fun x => own' x B) (fun x => ro' x R) := fun a w K he hs k => by
  obtain ⟨h0, h0'⟩ := hv _ a he
  obtain ⟨h1, h2⟩ := ha _ a h0'
  unfold Oper.wp
  rw [run_callV hc rfl h0 h1, Oper.upon_enter]
  refine Sat.behind (hs.imp hL) hR sp ?_
  rintro v L' R' w' ⟨x, hx, rfl, rfl, rfl⟩ hs'
  rw [← ho, ← hr] at hs'
  exact k x hx _ _ (h2.put hd) hs'

/-! ### A range over a function -/
structure RecF (C : Cx) (E : List (Nat × Value)) (ps : Array Tmp) (assign body : Code) (O : LoopState → Option Code → Obj) : Prop where
  ex : ∃ fn tmps D, (∀ s p, O s p = .loop { state := s, pending := p, fn, tmps, params := ps, assign, body, defers := D }) ∧ tmps.size = C.n.n ∧ ∀ x ∈ E, tmps[x.1]? = some x.2
/-- The context behind the statement, and that of a called function, and of a round. -/
abbrev Cx.mk' (C : Cx) (D : Nat) : Cx := ⟨C.P, ⟨C.n.n, ⟨.collected D, #[]⟩ :: C.n.df⟩, C.w0, C.D, C.G, none⟩
abbrev Cx.in' (C : Cx) (nt : Nat) : Cx := ⟨C.P, ⟨nt, []⟩, C.w0, C.D, C.G, none⟩
abbrev Cx.rd' (C : Cx) (l : Nat) : Cx := ⟨C.P, ⟨C.n.n, []⟩, C.w0, C.D, C.G, some l⟩
abbrev Act.mk' (a : Act) (D : Nat) : Act := { a with defers := ⟨.collected D, #[]⟩ :: a.defers }
theorem Post.rangeF {g : Operand} {ps : Array Tmp} {assign body : Code} {fn : Func} {c : Code} {nt : Nat} (hro : C.r = none) (he : Ev E g (fnv f caps) E') (hc : ∀ args w, (callFunc f args).run C.P w = .ok (.enter f args) w)
    (hf : C.P.funcs[f]? = some fn) (hb : fn.body = some c) (hn : fn.ntmps = nt) (hl : Nat.ble (caps.length + 1) nt = true)
    (k : ∀ a O D l, Env C.n E' a → RecF C E' ps assign body O → Post (C.in' nt) (mkE 0 (yv l :: caps)) (obj l (O .ready none) :: obj D (.deferred (some [])) :: L) R
      (wq (C.in' nt) c (bodyQ C.P fn (rangePost (Fw none) 0 C.P l Q (Act.mk' a D))))) : Post C E L R (wq C (Code.rangeFunc g ps assign body) Q) := fun a w e s => by
  obtain ⟨P, n, w0, D, G, r⟩ := C
  simp only at hro
  subst hro
  obtain ⟨h1, h2⟩ := he _ a e
  refine wpIn_rangeFunc ?_
  intro fnid _
  obtain ⟨W1, hW1⟩ : ∃ W1, (w.alloc (.deferred (some []))).alloc (.loop { state := .ready, pending := none, fn := fnid, tmps := a.tmps, params := ps, assign, body, defers := w.heap.size }) = W1 := ⟨_, rfl⟩
  refine ⟨w.heap.size + 1, [⟨.collected w.heap.size, #[]⟩], W1, ⟨.fn (.func f) ⟨caps⟩, #[yv (w.heap.size + 1)]⟩, W1, f, ⟨yv (w.heap.size + 1) :: caps⟩, W1, ?_, ?_, fun _ _ => trivial, ?_, fun h => by simp [Fw, Fence.wide] at h, ?_⟩
  · rw [← hW1]; exact run_enterLoop_outer _ _ _ _ _
  · have h1' : a.eval g = .func (.func f) #[] ⟨caps⟩ := h1
    simp [resolve, rangeCall, Deferred.ofValue, h1']
    rfl
  · simp only [invoke]
    have : (#[yv (w.heap.size + 1)] ++ (⟨caps⟩ : Array Value)) = ⟨yv (w.heap.size + 1) :: caps⟩ := by apply Array.ext'; simp
    rw [this]
    exact hc _ _
  · refine callsIn_of_wp_marks hf hb trivial (wpIn_mono ?_ bodyQ_M)
    have s1 := (s.new (.deferred (some []))).new (.loop { state := .ready, pending := none, fn := fnid, tmps := a.tmps, params := ps, assign, body, defers := w.heap.size })
    simp only [Array.size_push] at s1
    subst hn
    have hsz : (yv (w.heap.size + 1) :: caps).length ≤ fn.ntmps := by simpa using hl
    refine k a (fun st p => .loop { state := st, pending := p, fn := fnid, tmps := a.tmps, params := ps, assign, body, defers := w.heap.size }) w.heap.size (w.heap.size + 1) h2 ⟨⟨fnid, a.tmps, w.heap.size, fun _ _ => rfl, h2.1, h2.2.2⟩⟩ _ _ (env0 _ _ hsz) ?_
    rw [← hW1]
    exact s1
/-- The iterator has ended; nothing is pending. -/
theorem Post.rfin {fn : Func} {ps : Array Tmp} {assign body : Code} {O : LoopState → Option Code → Obj} {a : Act} {D l nt : Nat} (ha : Env C.n E1 a) (hO : RecF C E1 ps assign body O) (tk : Tk (obj l (O .ready none)) L L') (hres : fn.results = #[])
    (h : Post (C.mk' D) E1 L' R (Q .normal)) : Post (C.in' nt) E L R (bodyQ C.P fn (rangePost (Fw none) 0 C.P l Q (Act.mk' a D)) .ret) := fun a2 w e s => by
  show LeavesInM _ _ _ _ _ _ a2.defers _ _
  rw [e.2.1]
  obtain ⟨fn', tm, D', hO', _⟩ := hO.ex
  have s1 := s.take tk
  have at1 := s1.at_
  rw [hO'] at at1
  refine ⟨_, results_none hres _ _ _, none, _, run_endLoop at1 (by simp), h _ _ ⟨ha.1, by simp [ha.2.1], ha.2.2⟩ ?_⟩
  exact (s1.putObj _).drop
theorem Post.rfinn {fn : Func} {ps : Array Tmp} {assign body : Code} {O : LoopState → Option Code → Obj} {a : Act} {D l nt : Nat} (ha : Env C.n E1 a) (hO : RecF C E1 ps assign body O) (tk : Tk (obj l (O .ready none)) L L') (hres : fn.results = #[])
    (h : Post (C.mk' D) E1 L' R (Q .normal)) : Post (C.in' nt) E L R (bodyQ C.P fn (rangePost (Fw none) 0 C.P l Q (Act.mk' a D)) .normal) := Post.rfin ha hO tk hres h
/-- A round has left by a jump. -/
theorem Post.rjump {fn : Func} {ps : Array Tmp} {assign body c : Code} {O : LoopState → Option Code → Obj} {a : Act} {D l nt : Nat} (ha : Env C.n E1 a) (hO : RecF C E1 ps assign body O) (tk : Tk (obj l (O .done (some c))) L L') (hres : fn.results = #[])
    (h : Post (C.mk' D) E1 L' R (wq (C.mk' D) c Q)) : Post (C.in' nt) E L R (bodyQ C.P fn (rangePost (Fw none) 0 C.P l Q (Act.mk' a D)) .ret) := fun a2 w e s => by
  show LeavesInM _ _ _ _ _ _ a2.defers _ _
  rw [e.2.1]
  obtain ⟨fn', tm, D', hO', _⟩ := hO.ex
  have s1 := s.take tk
  have at1 := s1.at_
  rw [hO'] at at1
  refine ⟨_, results_none hres _ _ _, some c, _, run_endLoop at1 (by simp), h _ _ ⟨ha.1, by simp [ha.2.1], ha.2.2⟩ ?_⟩
  exact (s1.putObj _).drop
theorem Post.regY {id : Nat} {l : List Oper} (k : Nat) (hn : nd (l.take k) = true) (h : Post C E L R (wL C.P l.toArray (Exit.then (wpListIn (Fw C.r) 0 C.P l.toArray Q (l.drop k)) Q) (l.take k))) : Post C E L R (wq C (Code.region id l.toArray false) Q) := fun a w e s => by
  refine wpIn_region_lit ?_
  have key : ∀ (l1 l2 : List Oper) (a : Act) (w : World), nd l1 = true → wL C.P l.toArray (Exit.then (wpListIn (Fw C.r) 0 C.P l.toArray Q l2) Q) l1 a w → wpListIn (Fw C.r) 0 C.P l.toArray Q (l1 ++ l2) a w := by
    intro l1 l2
    induction l1 with
    | nil => intro a w _ h; unfold wL at h; exact h
    | cons o l1 ih =>
      intro a w hd h
      simp only [nd, List.all_cons, Bool.and_eq_true] at hd
      unfold wL at h
      rw [List.cons_append]
      unfold wpListIn
      by_cases hw : Region.wanted o (yielded l.toArray a.tmps) = true
      · rw [if_pos hw] at h ⊢
        refine oper_in hd.1 ?_
        have h2 := Oper.wp_mono (fun a' w' h' => ih a' w' hd.2 h') h
        unfold Oper.wp at h2 ⊢
        generalize (execOp a.eval o).run C.P w = x at *
        cases x with
        | ok x w' =>
          cases x <;> simp only [Oper.upon] at h2 ⊢ <;> first | exact h2 | (refine h2.mono fun e w'' he => ?_; cases e <;> first | exact he | (obtain ⟨a', w3, he⟩ := he; exact ⟨a', w3, he⟩))
        | halt x w' => cases x <;> simp only [Oper.upon] at h2 ⊢ <;> exact h2
      · rw [if_neg hw] at h ⊢
        exact ⟨fun _ _ => trivial, ih _ _ hd.2 h⟩
  have := key (l.take k) (l.drop k) a w hn (h a w e s)
  rwa [List.take_append_drop] at this
theorem Post.inL (hn : nd rest = true) (h : Post C E L R (wL C.P ops Q rest)) : Post C E L R (wpListIn (Fw none) 0 C.P ops Q rest) := fun a w e s => wL_in hn (h a w e s)
/-- What follows a call of yield, in the iterator's frame. -/
def YP (P : Program) (ops : Array Oper) (Q : Exit → Act → World → Prop) (rest : List Oper) (d : Nat) (a : Act) : Ending → World → Prop
  | .returned v, w => wpListIn (Fw none) 0 P ops Q rest (a.put (some d) v) w
  | .panicked chain, w => Q (.panic chain) a w
  | .outgrown, _ => LetsOut Q
def BG (P : Program) (l : Nat) (K : Act → World → Prop) : Act → World → Prop := fun a w => ∃ w2, (Instr.beginRound l).run P w = .ok () w2 ∧ K a w2
theorem run_yieldop {P : Program} {a : Act} {w : World} {o : Oper} {fop : Operand} {l : Nat} (ho : o.op = .call ⟨.value fop, ⟨xs⟩, ats⟩) (hf : a.eval fop = yv l) (he : xs.map a.eval = args) :
    (execOp a.eval o).run P w = (Instr.yield l ⟨args⟩).run P w := by
  subst he
  simp [execOp, ho, resolve, Deferred.ofValue, hf, invoke]
def setP (tm : Array Value) : List (Nat × Value) → Array Value
  | [] => tm
  | p :: ps => setP (tm.setIfInBounds p.1 p.2) ps
theorem setP_env {tm : Array Value} {n : Nat} {E : List (Nat × Value)} : ∀ {ps : List (Nat × Value)}, tm.size = n → (∀ x ∈ E, tm[x.1]? = some x.2) → (ps.all (fun p => Nat.blt p.1 n && E.all (fun x => x.1 != p.1))) = true → (ps.map (·.1)).Nodup →
    (setP tm ps).size = n ∧ ∀ x ∈ ps ++ E, (setP tm ps)[x.1]? = some x.2 := by
  intro ps
  induction ps generalizing tm E with
  | nil => exact fun h1 h2 _ _ => ⟨h1, h2⟩
  | cons p ps ih =>
    intro h1 h2 h3 h4
    simp only [List.all_cons, Bool.and_eq_true, Nat.blt_eq, List.all_eq_true, bne_iff_ne, ne_eq] at h3
    simp only [List.map_cons, List.nodup_cons, List.mem_map, not_exists, not_and] at h4
    obtain ⟨⟨h5, h6⟩, h7⟩ := h3
    have := ih (tm := tm.setIfInBounds p.1 p.2) (E := p :: E) (by simp [h1]) (fun x hx => by
      rcases List.mem_cons.1 hx with rfl | hm
      · rw [Array.getElem?_setIfInBounds_self_of_lt (by omega)]
      · rw [Array.getElem?_setIfInBounds_ne (fun e => h6 x hm e.symm)]; exact h2 x hm) (by
      rw [List.all_eq_true]
      intro q hq
      obtain ⟨a, b⟩ := h7 q hq
      simp only [Bool.and_eq_true, Nat.blt_eq, List.all_eq_true, bne_iff_ne, ne_eq]
      refine ⟨a, fun x hx => ?_⟩
      rcases List.mem_cons.1 hx with rfl | hm
      · exact fun e => h4.1 q hq e.symm
      · exact b x hm) h4.2
    refine ⟨this.1, fun x hx => this.2 x ?_⟩
    simp only [List.mem_append, List.mem_cons, List.cons_append] at hx ⊢
    rcases hx with h | h | h <;> simp [h]
theorem setP_fold (tm : Array Value) : ∀ (ps : List Tmp) (vs : List Value), (ps.zip vs).foldl (fun tmps (x : Tmp × Value) => tmps.setIfInBounds x.1 x.2) tm = setP tm (ps.zip vs) := by
  intro ps vs
  generalize ps.zip vs = l
  induction l generalizing tm with
  | nil => rfl
  | cons x l ih => exact ih _
theorem Post.yield {fop : Operand} {ps : List Tmp} {assign body : Code} {O : LoopState → Option Code → Obj} {l nt : Nat} (hf : Ev E fop (yv l) E0) (ha : Evs E0 xs args E') (hO : RecF C E1 ⟨ps⟩ assign body O) (tk : Tk (obj l (O .ready none)) L L')
    (hps : ps.length = args.length) (hf1 : ((ps.zip args).all (fun p => Nat.blt p.1 C.n.n && E1.all (fun x => x.1 != p.1))) = true) (hf2 : ps.Nodup)
    (k : ∀ a, Env ⟨nt, []⟩ E' a → Post (C.rd' l) (ps.zip args ++ E1) (obj l (O .ready none) :: L') R
      (wq (C.rd' l) assign (Exit.then (BG C.P l (wq (C.rd' l) body (roundPost C.P l (YP C.P ops Q rest d a)))) (fun _ _ _ => False)))) :
    Post (C.in' nt) E L R (wpListIn (Fw none) 0 C.P ops Q (⟨some d, .call ⟨.value fop, ⟨xs⟩, ats⟩, ty, pos, aft, none⟩ :: rest)) := fun a w e s => by
  obtain ⟨h1, h2⟩ := hf _ a e
  obtain ⟨h3, h4⟩ := ha _ a h2
  obtain ⟨fnid, tm, D, hO', hsz, henv⟩ := hO.ex
  have s1 := s.take tk
  have at1 := s1.at_
  rw [hO'] at at1
  unfold wpListIn
  rw [if_pos (by simp [Region.wanted])]
  refine ⟨fun _ _ => trivial, ?_⟩
  rw [Oper.semAt_eq _ _ _ (fun c h => by cases h), run_yieldop rfl h1 h3, run_yield at1 (by simp [hps])]
  rw [Oper.uponIn_round]
  refine ⟨fun h => by simp [Fw, Fence.wide] at h, ?_⟩
  obtain ⟨g1, g2⟩ := setP_env (ps := ps.zip args) hsz henv hf1 (by rw [List.map_fst_zip (by omega)]; exact hf2)
  have hz : ((⟨ps⟩ : Array Tmp).zip (⟨args⟩ : Array Value)).foldl (fun tmps (x : Tmp × Value) => tmps.setIfInBounds x.1 x.2) tm = setP tm (ps.zip args) := by
    rw [← setP_fold]
    rw [show ((⟨ps⟩ : Array Tmp).zip (⟨args⟩ : Array Value)) = (ps.zip args).toArray from by apply Array.ext'; simp]
    simp
  have hk := k a h4 ⟨setP tm (ps.zip args), []⟩ w ⟨g1, rfl, g2⟩ s1
  have hr : RoundIn (Fw none) 0 C.P l fnid (setP tm (ps.zip args)) assign body w (YP C.P ops Q rest d a) := roundIn_of_wpIn trivial hk
  rw [← hz] at hr
  exact hr.mono fun e w' h => by cases e <;> exact h
theorem Post.bg {l : Nat} {ps : Array Tmp} {assign body : Code} {O : LoopState → Option Code → Obj} {C2 : Cx} {P : Program} (hP : C2.P = P) (hO : RecF C E1 ps assign body O) (tk : Tk (obj l (O .ready none)) L L')
    (h : Post C2 E (obj l (O .busy none) :: L') R K) : Post C2 E L R (BG P l K) := fun a w e s => by
  subst hP
  obtain ⟨fn', tm, D', hO', _⟩ := hO.ex
  have s1 := s.take tk
  have at1 := s1.at_
  rw [hO'] at at1
  refine ⟨_, run_beginRound at1 rfl, h a _ e ?_⟩
  have := s1.putObj (O .busy none)
  rw [hO' .busy none] at this ⊢
  exact this
theorem rend {l : Nat} {ps : Array Tmp} {assign body : Code} {O : LoopState → Option Code → Obj} {w : World} {P : Program} (hO : RecF C E1 ps assign body O) (jump : Option Code) {w0 : World} {D G : Nat → Prop} (s : Sat w0 D G (obj l (O .busy none) :: L) R w) :
    ∃ w', (Instr.endRound l jump).run P w = .ok (.bool jump.isNone) w' ∧ Sat w0 D G (obj l (O (if jump.isNone then .ready else .done) jump) :: L) R w' := by
  obtain ⟨fn', tm, D', hO', _⟩ := hO.ex
  have at1 := s.at_
  rw [hO'] at at1
  refine ⟨_, run_endRound jump at1, ?_⟩
  rw [hO']
  exact s.putObj _
theorem Post.rnorm {C2 : Cx} {l nt : Nat} {ps : Array Tmp} {assign body : Code} {O : LoopState → Option Code → Obj} {a : Act} {P : Program} (hP : C.P = P) (hw : C2.w0 = C.w0 ∧ C2.D = C.D ∧ C2.G = C.G) (ha : Env ⟨nt, []⟩ E' a) (hO : RecF C E1 ps assign body O) (tk : Tk (obj l (O .busy none)) L L') (hd : fr E' d nt = true)
    (h : Post (C.in' nt) ((d, Bo true) :: E') (obj l (O .ready none) :: L') R (wpListIn (Fw none) 0 C.P ops Q rest)) : Post C2 E L R (roundPost P l (YP P ops Q rest d a) .normal) := fun a2 w e s => by
  subst hP
  rw [hw.1, hw.2.1, hw.2.2] at s
  obtain ⟨w', h1, h2⟩ := rend (P := C.P) hO none (s.take tk)
  exact ⟨_, w', h1, h _ _ (ha.put hd) h2⟩
theorem Post.rret {C2 : Cx} {l nt : Nat} {ps : Array Tmp} {assign body : Code} {O : LoopState → Option Code → Obj} {a : Act} {P : Program} (hP : C.P = P) (hw : C2.w0 = C.w0 ∧ C2.D = C.D ∧ C2.G = C.G) (ha : Env ⟨nt, []⟩ E' a) (hO : RecF C E1 ps assign body O) (tk : Tk (obj l (O .busy none)) L L') (hd : fr E' d nt = true)
    (h : Post (C.in' nt) ((d, Bo false) :: E') (obj l (O .done (some .ret)) :: L') R (wpListIn (Fw none) 0 C.P ops Q rest)) : Post C2 E L R (roundPost P l (YP P ops Q rest d a) .ret) := fun a2 w e s => by
  subst hP
  rw [hw.1, hw.2.1, hw.2.2] at s
  obtain ⟨w', h1, h2⟩ := rend (P := C.P) hO (some .ret) (s.take tk)
  exact ⟨_, w', h1, h _ _ (ha.put hd) h2⟩
theorem Post.rexit {C2 : Cx} {l nt id : Nat} {ps : Array Tmp} {assign body : Code} {O : LoopState → Option Code → Obj} {a : Act} {P : Program} (hP : C.P = P) (hw : C2.w0 = C.w0 ∧ C2.D = C.D ∧ C2.G = C.G) (ha : Env ⟨nt, []⟩ E' a) (hO : RecF C E1 ps assign body O) (tk : Tk (obj l (O .busy none)) L L') (hd : fr E' d nt = true)
    (h : Post (C.in' nt) ((d, Bo false) :: E') (obj l (O .done (some (.exit id))) :: L') R (wpListIn (Fw none) 0 C.P ops Q rest)) : Post C2 E L R (roundPost P l (YP P ops Q rest d a) (.exit id)) := fun a2 w e s => by
  subst hP
  rw [hw.1, hw.2.1, hw.2.2] at s
  obtain ⟨w', h1, h2⟩ := rend (P := C.P) hO (some (.exit id)) (s.take tk)
  exact ⟨_, w', h1, h _ _ (ha.put hd) h2⟩
/-- The end of a function that has ranged over a function once. -/
theorem Post.finm {fn : Func} {α : Type} {φ : α → Prop} {res : α → Value} {own' ro' : α → List Asn → List Asn} {D : Nat} (z : α) (tk : Tk (obj D (.deferred (some []))) L L') (h : Fin (C.mk' D) fn E L' R (res z)) (hφ : φ z) (hl : Ls L' (own' z [])) (hr : Rs R (ro' z [])) (hd : C.n.df = [] := by rfl) :
    Post (C.mk' D) E L R (bodyQ C.P fn (Rt C φ res own' ro') .ret) := fun a w he hs => by
  show LeavesInM _ _ _ _ _ _ a.defers _ _
  have hdf : a.defers = [⟨.collected D, #[]⟩] := by rw [he.2.1]; simp [hd]
  rw [hdf]
  have s1 := hs.take tk
  have s2 := (s1.putObj (.deferred none)).drop
  exact ⟨by simp, .inl ⟨D, _, rfl, run_takeDeferred s1.at_, _, h a _ he s2, _, _, _, rfl, ⟨z, hφ, rfl, rfl, rfl⟩, (s2.imp hl).ro hr⟩⟩
theorem Post.finmn {fn : Func} {α : Type} {φ : α → Prop} {res : α → Value} {own' ro' : α → List Asn → List Asn} {D : Nat} (z : α) (tk : Tk (obj D (.deferred (some []))) L L') (h : Fin (C.mk' D) fn E L' R (res z)) (hφ : φ z) (hl : Ls L' (own' z [])) (hr : Rs R (ro' z [])) (hd : C.n.df = [] := by rfl) :
    Post (C.mk' D) E L R (bodyQ C.P fn (Rt C φ res own' ro') .normal) := Post.finm z tk h hφ hl hr hd
end
end Go.Sl
