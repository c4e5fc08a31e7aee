/- A deferred closure that recovers a panic whose number is told. -/
import Derived.Test.YtjlalcoommhfoaaGreatSlPx
import Derived.RecoverIn
set_option linter.unusedVariables false
set_option linter.unusedSimpArgs false
namespace Go.Sl
section
variable {C : Cx} {E E' E1 : List (Nat × Value)} {L L' L1 R R' A B ro : List Asn} {K : Act → World → Prop} {Q : Exit → Act → World → Prop}
  {ops : Array Oper} {d : Nat} {v x y : Value} {ty : TypeId} {pos : String} {aft : Array Edge} {gd : Option (Nat × Bool)}
  {f : FuncId} {args caps : List Value} {α ρ : Type} {own : List Asn} {fn : Func}
/-- A closure is made and put off. -/
theorem Post.defr {id : Nat} {ps : List Operand} {vs : List Value} {ty2 : TypeId} {pos2 : String} {aft2 : Array Edge} {ats : Array TypeId} (hro : C.r = none) (h : Evs E ps vs E') (hf : fr E' d C.n.n = true)
    (k : Post ⟨C.P, ⟨C.n.n, ⟨.fn (.func f) ⟨vs⟩, #[]⟩ :: C.n.df⟩, C.w0, C.D, C.G, C.r⟩ E' L R (Q .normal)) :
    Post C E L R (wq C (Code.region id #[⟨some d, .makeFunc (.func f) #[] ⟨ps⟩, ty, pos, aft, none⟩, ⟨none, .defer ⟨.value (.tmp d), #[], ats⟩, ty2, pos2, aft2, none⟩] false) Q) := fun a w he hs => by
  obtain ⟨h1, h2⟩ := h _ a he
  refine wpIn_region_lit ?_
  have h3 := h2.put (v := fnv f vs) hf
  have ev : (a.put (some d) (fnv f vs)).eval (.tmp d) = fnv f vs := by
    have := h3.head
    simp only [Act.eval, Array.getD_eq_getD_getElem?] at *
    simp [this]
  unfold wpListIn
  rw [if_pos (by simp [Region.wanted])]
  refine ⟨fun _ _ => trivial, ?_⟩
  have r1 : (execOp a.eval ⟨some d, .makeFunc (.func f) #[] ⟨ps⟩, ty, pos, aft, none⟩).run C.P w = .ok (.value (fnv f vs)) w := by simp [execOp, Instr.makeFunc, h1]
  rw [show (Fw C.r).round = C.r from rfl, hro, Oper.semAt_none, r1]
  show wpListIn _ _ _ _ _ [_] (a.put (some d) (fnv f vs)) w
  unfold wpListIn
  rw [if_pos (by simp [Region.wanted])]
  refine ⟨fun _ _ => trivial, ?_⟩
  have r2 : (execOp (a.put (some d) (fnv f vs)).eval ⟨none, .defer ⟨.value (.tmp d), #[], ats⟩, ty2, pos2, aft2, none⟩).run C.P w = .ok (.defer ⟨.fn (.func f) ⟨vs⟩, #[]⟩) w := by
    simp [execOp, resolve, ev, Deferred.ofValue]
  rw [show (Fw none).round = none from rfl, Oper.semAt_none, r2]
  refine k _ w ⟨?_, ?_, ?_⟩ hs
  · simpa [Act.put] using h3.1
  · show _ :: (a.put (some d) (fnv f vs)).defers = _
    rw [h3.2.1]
  · intro x hx
    exact h3.2.2 x (List.mem_cons_of_mem _ hx)

/-! ### The closure's contract, by the mode of the frame below -/
def SpecD (P : Program) (f : FuncId) (args : List Value) (u u' : FrameMode) (own ro own' : List Asn) : Prop :=
  ∀ (w : World) (h g : Hp), stars own h → h.In w → g.In w → Dj g h → (∀ r ∈ ro, ∃ k : Hp, r k ∧ Le k g) →
    CallsDIn (Fw none) 0 P f ⟨args⟩ u w fun e u2 w' => (∃ v, e = .returned v) ∧ u2 = u' ∧ Sat w (fun b => h b ≠ none) (fun b => g b ≠ none) own' [] w'
/-- The body's end, deferred calls and all. -/
theorem Post.leaveD {own' : List Asn} {W : Ending → World → Prop} {u u' : FrameMode} (hd : C.n.df = [⟨.fn (.func f) ⟨caps⟩, #[]⟩]) (hc : ∀ args w, (callFunc f args).run C.P w = .ok (.enter f args) w) (hu : u ≠ .run)
    (sp : SpecD C.P f caps u u' A ro own') (hL : Sp L A B) (hR : Rs R ro) (hs : settle u' = .returning)
    (k : Post C E (own' ++ B) R (fun a w => ∃ v, (results fn a.tmps).run C.P w = .ok v w ∧ W (.returned v) w)) : Post C E L R (fun a w => LeavesInM (Fw none) 0 C.P fn a.tmps W a.defers u w) := fun a w he hst => by
  show LeavesInM _ _ _ _ _ _ _ _ _
  rw [he.2.1, hd]
  have hst2 := hst.imp hL
  obtain ⟨h, g, st, hin, gin, gh, hd2, hg, hr⟩ := hst2.own
  obtain ⟨h1, h2, rfl, d, hA, hB⟩ := stars_append st
  obtain ⟨i1, i2⟩ := Hp.In.of_un d hin
  obtain ⟨g1, g2⟩ := Dj.of_un_r gh
  refine ⟨hu, .inr ⟨fun h => by simp [Fw, Fence.wide] at h, .func f, ⟨caps⟩, f, ⟨caps⟩, rfl, ?_, fun _ _ => trivial, ?_⟩⟩
  · simp only [invoke]
    have : (#[] ++ (⟨caps⟩ : Array Value)) = ⟨caps⟩ := by simp
    rw [this]
    exact hc _ _
  · refine CallsDIn.mono (sp w h1 g hA i1 gin g1 (fun r' hr' => ?_)) ?_
    · obtain ⟨r, hm, im⟩ := hR r' hr'
      obtain ⟨k, x, y⟩ := hr r hm
      exact ⟨k, im k x, y⟩
    · rintro e u2 w' ⟨⟨v, rfl⟩, rfl, s'⟩
      show LeavesInM _ _ _ _ _ _ [] (settle _) _
      rw [hs]
      exact k a w' he (hst2.after d hB i1 i2 gin g1 g2 hd2 hg hr s')
theorem Post.leaveR {own' : List Asn} {W : Ending → World → Prop} (hd : C.n.df = [⟨.fn (.func f) ⟨caps⟩, #[]⟩]) (hc : ∀ args w, (callFunc f args).run C.P w = .ok (.enter f args) w)
    (sp : SpecD C.P f caps .returning .returning A ro own') (hL : Sp L A B) (hR : Rs R ro)
    (k : Post C E (own' ++ B) R (fun a w => ∃ v, (results fn a.tmps).run C.P w = .ok v w ∧ W (.returned v) w)) : Post C E L R (bodyPostM (Fw none) 0 C.P fn W .ret) := Post.leaveD hd hc (by simp) sp hL hR rfl k
theorem Post.leaveP {own' : List Asn} {W : Ending → World → Prop} {c : List PanicEntry} {u' : FrameMode} (hd : C.n.df = [⟨.fn (.func f) ⟨caps⟩, #[]⟩]) (hc : ∀ args w, (callFunc f args).run C.P w = .ok (.enter f args) w)
    (sp : SpecD C.P f caps (.panicking c) u' A ro own') (hL : Sp L A B) (hR : Rs R ro) (hs : settle u' = .returning)
    (k : Post C E (own' ++ B) R (fun a w => ∃ v, (results fn a.tmps).run C.P w = .ok v w ∧ W (.returned v) w)) : Post C E L R (bodyPostM (Fw none) 0 C.P fn W (.panic c)) := Post.leaveD hd hc (by simp) sp hL hR hs k
theorem Post.finD {nn : Fd} {rr : Option Nat} {φ : α → Prop} {res : α → Value} {own' ro' : α → List Asn → List Asn} (z : α) (h : Fin C fn E L R (res z)) (hφ : φ z) (hl : Ls L (own' z [])) (hr : Rs R (ro' z [])) :
    Post C E L R (fun a w => ∃ v, (results fn a.tmps).run C.P w = .ok v w ∧ Rt ⟨C.P, nn, C.w0, C.D, C.G, rr⟩ φ res own' ro' (.returned v) w) := fun a w he hs =>
  ⟨_, h a w he hs, _, _, _, rfl, ⟨z, hφ, rfl, rfl, rfl⟩, (hs.imp hl).ro hr⟩
/-- Whatever the body of a function puts off. -/
theorem SpecF.ofD {P : Program} {c : Code} {nt : Nat} {φ : α → Prop} {res : α → Value} {own' ro' : α → List Asn → List Asn} (hf : P.funcs[f]? = some fn) (hb : fn.body = some c) (hn : fn.ntmps = nt) (hl : Nat.ble args.length nt = true)
    (h : ∀ w0 D G, Post ⟨P, ⟨nt, []⟩, w0, D, G, none⟩ (mkE 0 args) own ro (wq ⟨P, ⟨nt, []⟩, w0, D, G, none⟩ c (bodyPostM (Fw none) 0 P fn (Rt ⟨P, ⟨nt, []⟩, w0, D, G, none⟩ φ res own' ro')))) :
    SpecF P f args own ro φ res own' ro' := fun w hp g st hin gin gh hr => by
  subst hn
  refine callsOf (n := 0) (callsIn_of_wp_marks hf hb trivial ?_)
  refine h w (fun b => hp b ≠ none) (fun b => g b ≠ none) _ w (env0 args _ (by simpa using hl)) ?_
  exact ⟨rfl, rfl, rfl, Nat.le_refl _, fun _ _ _ => rfl, hp, g, st, hin, gin, gh, fun b hb => .inl hb, fun b hb => .inl hb, hr⟩
/-! ### The closure's body, where it recovers -/
/-- The operations of a region of a deferred frame: the frames below are a part of the state. -/
def wS (P : Program) (ops : Array Oper) (Q : Exit → Act → List Frame → World → Prop) (l : List Nat) (cs : List Frame) : Act → World → Prop := fun a w => wpOpsSIn (Fw none) 0 P ops Q l a cs w
variable {QS : Exit → Act → List Frame → World → Prop} {l : List Nat} {cs cs' : List Frame} {i : Nat} {o : Oper}
theorem Post.srec (ho : ops[i]? = some o) (hg : o.guard = none) (hd : o.dst = some d) (hrun : ∀ ρ w, (execOp ρ o).run C.P w = .ok .recover w) (hr : recoverD cs = some (v, cs')) (hf : fr E d C.n.n = true) (k : Post C ((d, v) :: E) L R (wS C.P ops QS l cs')) :
    Post C E L R (wS C.P ops QS (i :: l) cs) := fun a w he hs => by
  unfold wS wpOpsSIn
  simp only [ho]
  refine ⟨fun _ _ => trivial, ?_⟩
  rw [if_pos (by simp [Region.wanted, hg]), hrun]
  simp only [hr]
  rw [hd]
  exact k _ _ (he.put hf) hs
theorem Post.srecn (ho : ops[i]? = some o) (hg : o.guard = none) (hd : o.dst = some d) (hrun : ∀ ρ w, (execOp ρ o).run C.P w = .ok .recover w) (hr : recoverD cs = none) (hf : fr E d C.n.n = true) (k : Post C ((d, .nilIface) :: E) L R (wS C.P ops QS l cs)) :
    Post C E L R (wS C.P ops QS (i :: l) cs) := fun a w he hs => by
  unfold wS wpOpsSIn
  simp only [ho]
  refine ⟨fun _ _ => trivial, ?_⟩
  rw [if_pos (by simp [Region.wanted, hg]), hrun]
  simp only [hr]
  rw [hd]
  exact k _ _ (he.put hf) hs
theorem Post.sop (ho : ops[i]? = some o) (hg : o.guard = none) (hd : o.dst = some d) (h : OpV C E L R o v E') (hf : fr E' d C.n.n = true) (k : Post C ((d, v) :: E') L R (wS C.P ops QS l cs)) :
    Post C E L R (wS C.P ops QS (i :: l) cs) := fun a w he hs => by
  obtain ⟨h1, h2⟩ := h a w he hs
  unfold wS wpOpsSIn
  simp only [ho]
  refine ⟨fun _ _ => trivial, ?_⟩
  rw [if_pos (by simp [Region.wanted, hg]), h1]
  rw [hd]
  exact k _ _ (h2.put hf) hs
theorem Post.sopx {β : Type} {V : β → Value} {LX : β → List Asn} (ho : ops[i]? = some o) (hg : o.guard = none) (hd : o.dst = some d) (h : OpX C E L R o V LX E') (hf : fr E' d C.n.n = true) (k : ∀ x, Post C ((d, V x) :: E') (LX x) R (wS C.P ops QS l cs)) :
    Post C E L R (wS C.P ops QS (i :: l) cs) := fun a w he hs => by
  obtain ⟨x, w', h1, h2, h3⟩ := h a w he hs
  unfold wS wpOpsSIn
  simp only [ho]
  refine ⟨fun _ _ => trivial, ?_⟩
  rw [if_pos (by simp [Region.wanted, hg]), h1]
  rw [hd]
  exact k x _ _ (h2.put hf) h3
theorem store_run {P : Program} {ρ : Operand → Value} {o ov : Operand} {t : TypeId} {w : World} : (∃ w', (execOp ρ ⟨none, .store t o ov, ty, pos, aft, gd⟩).run P w = .ok .skip w') ∨ ∃ h w', (execOp ρ ⟨none, .store t o ov, ty, pos, aft, gd⟩).run P w = .halt h w' := by
  simp only [execOp, Sem.run_bind]
  cases (Instr.storeAt t (ρ o) (ρ ov)).run P w with
  | ok u w' => exact .inl ⟨w', rfl⟩
  | halt h w' => exact .inr ⟨h, w', rfl⟩
theorem Post.sst {o ov : Operand} {t : TypeId} {φ : α → Prop} {EX : α → List (Nat × Value)} {LX RX : α → List Asn} (ho : ops[i]? = some ⟨none, .store t o ov, ty, pos, aft, none⟩)
    (h : OpG C (fun _ _ _ => False) E L R ⟨none, .store t o ov, ty, pos, aft, none⟩ φ EX LX RX) (k : ∀ x, φ x → Post C (EX x) (LX x) (RX x) (wS C.P ops QS l cs)) :
    Post C E L R (wS C.P ops QS (i :: l) cs) := fun a w he hs => by
  have h1 := h a w (fun a' w' => ∃ x, φ x ∧ Env C.n (EX x) a' ∧ Sat C.w0 C.D C.G (LX x) (RX x) w') he hs fun x hx a' w' e s => ⟨x, hx, e, s⟩
  unfold Oper.wp at h1
  unfold wS wpOpsSIn
  simp only [ho]
  refine ⟨fun _ _ => trivial, ?_⟩
  rw [if_pos (by simp [Region.wanted])]
  rcases store_run (P := C.P) (ρ := a.eval) (o := o) (ov := ov) (t := t) (w := w) (ty := ty) (pos := pos) (aft := aft) (gd := none) with ⟨w', e⟩ | ⟨hh, w', e⟩
  · rw [e] at h1 ⊢
    obtain ⟨x, hx, e1, s1⟩ := h1
    exact k x hx _ _ e1 s1
  · rw [e] at h1 ⊢
    cases hh <;> exact h1.elim
theorem Post.snil (h : Post C E L R (fun a w => QS .normal a cs w)) : Post C E L R (wS C.P ops QS [] cs) := fun a w he hs => h a w he hs
/-- x.(T), with its boolean. -/
theorem P.tas {o : Operand} {xt t : TypeId} {u : TypeDesc} (h : Ev E o (.iface t v) E') (hu : ∀ w, (underlying t).run C.P w = .ok u w) (hn : ∀ m, u ≠ .interface m) : OpP C E ⟨some d, .typeAssert o xt t true, ty, pos, aft, gd⟩ (Tu [v, Bo true]) E' := fun a w he => by
  obtain ⟨h1, h2⟩ := h _ a he
  refine ⟨?_, h2⟩
  simp only [execOp, h1, Instr.typeAssert, Sem.run_bind, hu, Result.andThen_ok]
  cases u <;> first | exact absurd rfl (hn _) | simp
theorem P.tasn {o : Operand} {xt t : TypeId} {u : TypeDesc} {z : Value} (h : Ev E o .nilIface E') (hu : ∀ w, (underlying t).run C.P w = .ok u w) (hn : ∀ m, u ≠ .interface m) (hz : ∀ w, (zeroValue t).run C.P w = .ok z w) : OpP C E ⟨some d, .typeAssert o xt t true, ty, pos, aft, gd⟩ (Tu [z, Bo false]) E' := fun a w he => by
  obtain ⟨h1, h2⟩ := h _ a he
  refine ⟨?_, h2⟩
  simp only [execOp, h1, Instr.typeAssert, Sem.run_bind, hu, Result.andThen_ok]
  cases u <;> first | exact absurd rfl (hn _) | simp [hz]
theorem SpecD.of {P : Program} {c2 : Code} {nt id : Nat} {lo : List Oper} {u u' : FrameMode} {own' : List Asn} {ls : List Nat} (hf : P.funcs[f]? = some fn) (hb : fn.body = some (.seq (.region id lo.toArray false) c2)) (hn : fn.ntmps = nt) (hl : Nat.ble args.length nt = true) (hls : List.range lo.length = ls)
    (h : ∀ w0 D G (c₀ : Frame) (cs : List Frame) (W : Ending → FrameMode → World → Prop), c₀.mode = u → (∀ e u2 w', W e u2 w' ↔ (∃ v, e = .returned v) ∧ u2 = u' ∧ Sat w0 D G own' [] w') → Post ⟨P, ⟨nt, []⟩, w0, D, G, none⟩ (mkE 0 args) own ro (wS P lo.toArray (Exit.thenS (c2.wpSIn (Fw none) 0 P (bodyPostS P fn c₀ cs W)) (bodyPostS P fn c₀ cs W)) ls (c₀ :: cs))) :
    SpecD P f args u u' own ro own' := fun w hp g st hin gin gh hr => by
  subst hn
  refine callsDIn_of_wpSIn hf hb trivial fun c₀ cs hu => ?_
  apply wpSIn_seq
  apply wpSIn_region
  have := h w (fun b => hp b ≠ none) (fun b => g b ≠ none) c₀ cs _ hu (fun _ _ _ => Iff.rfl) _ w (env0 args _ (by simpa using hl)) ⟨rfl, rfl, rfl, Nat.le_refl _, fun _ _ _ => rfl, hp, g, st, hin, gin, gh, fun b hb => .inl hb, fun b hb => .inl hb, hr⟩
  unfold wS at this
  rw [← hls] at this
  simpa using this
/-- Behind the region that recovers the walk is as any other. -/
theorem Post.scode {c : Code} {P : Program} {nt : Nat} {w0 : World} {D G : Nat → Prop} (h : Post ⟨P, ⟨nt, []⟩, w0, D, G, none⟩ E L R (wq ⟨P, ⟨nt, []⟩, w0, D, G, none⟩ c (fun e a w => QS e a cs w))) :
    Post ⟨P, ⟨nt, []⟩, w0, D, G, none⟩ E L R (fun a w => Exit.thenS (c.wpSIn (Fw none) 0 P QS) QS .normal a cs w) := fun a w he hs => wpSIn_of_wpIn rfl (h a w he hs)
theorem QP.bods {P : Program} {c₀ : Frame} {W : Ending → FrameMode → World → Prop} (h : ∀ u w, ¬ W .outgrown u w) : QP (fun e a w => bodyPostS P fn c₀ cs W e a cs' w) :=
  ⟨fun c d v a w h => ⟨by have := h.1; cases d <;> simpa [Act.put] using this, h.2⟩, fun a w ⟨u, hw⟩ => h u w hw⟩
theorem Post.sfin {P : Program} {nt : Nat} {w0 : World} {D G : Nat → Prop} {c₀ : Frame} {m : FrameMode} {W : Ending → FrameMode → World → Prop} {own' : List Asn} (hres : fn.results = #[]) (hW : ∀ e u2 w', W e u2 w' ↔ (∃ v, e = .returned v) ∧ u2 = m ∧ Sat w0 D G own' [] w') (hc : cs' = { c₀ with mode := m } :: cs) (hl : Ls L own') :
    Post ⟨P, ⟨nt, []⟩, w0, D, G, none⟩ E L R (fun a w => bodyPostS P fn c₀ cs W .normal a cs' w) := fun a w he hs => by
  have h1 : Sat w0 D G own' R w := hs.imp hl
  exact ⟨he.2.1, m, hc, _, results_none hres _ _ _, (hW _ _ _).2 ⟨⟨_, rfl⟩, rfl, h1.ro fun _ h => by simp at h⟩⟩
end
end Go.Sl
