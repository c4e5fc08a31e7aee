/- Functions that may leave by a panic whose number is told. -/
import Derived.Test.YtjlalcoommhfoaaGreatSlRz
import Derived.WalkSmall
set_option linter.unusedVariables false
set_option linter.unusedSimpArgs false
namespace Go.Sl
inductive Px (α : Type) where
  | ok (a : α)
  | er (e : Int)
def pxe {α β : Type} (a : Option (Px α)) (fe : Int → Option β) (f : α → Option β) : Option β := match a with | none => none | some (.er e) => fe e | some (.ok y) => f y
theorem pxe_eq {α β : Type} {a : Option (Px α)} {fe : Int → Option β} {f : α → Option β} {r : β} (h : pxe a fe f = some r) : (∃ e, a = some (.er e) ∧ fe e = some r) ∨ ∃ y, a = some (.ok y) ∧ f y = some r := by
  unfold pxe at h
  cases a with
  | none => simp at h
  | some x => cases x with
    | ok y => exact .inr ⟨y, rfl, h⟩
    | er e => exact .inl ⟨e, rfl, h⟩
def SpecE (P : Program) (f : FuncId) (args : List Value) (own ro : List Asn) (c : List PanicEntry) : Prop :=
  ∀ (w : World) (h g : Hp), stars own h → h.In w → g.In w → Dj g h → (∀ r ∈ ro, ∃ k : Hp, r k ∧ Le k g) →
    Calls P f ⟨args⟩ w fun e w' => e = .panicked c ∧ Sat w (fun b => h b ≠ none) (fun b => g b ≠ none) [] [] w'
def SpecX {α ρ : Type} (P : Program) (f : FuncId) (args : List Value) (own ro : List Asn) (φ : ρ → α → Prop) (ch : Int → List PanicEntry) (r : Px ρ) (res : ρ → α → Value) (own' ro' : ρ → α → List Asn → List Asn) : Prop :=
  match r with
  | .ok y => SpecF P f args own ro (φ y) (res y) (own' y) (ro' y)
  | .er e => SpecE P f args own ro (ch e)
theorem SpecX.ok {α ρ : Type} {P : Program} {f : FuncId} {args : List Value} {own ro : List Asn} {φ : ρ → α → Prop} {ch : Int → List PanicEntry} {y : ρ} {res : ρ → α → Value} {own' ro' : ρ → α → List Asn → List Asn}
    (h : SpecX P f args own ro φ ch (.ok y) res own' ro') : SpecF P f args own ro (φ y) (res y) (own' y) (ro' y) := h
theorem SpecX.er {α ρ : Type} {P : Program} {f : FuncId} {args : List Value} {own ro : List Asn} {φ : ρ → α → Prop} {ch : Int → List PanicEntry} {e : Int} {res : ρ → α → Value} {own' ro' : ρ → α → List Asn → List Asn}
    (h : SpecX P f args own ro φ ch (.er e) res own' ro') : SpecE P f args own ro (ch e) := h
section
variable {C : Cx} {E E' E1 : List (Nat × Value)} {L L' L1 R R' A B ro : List Asn} {K : Act → World → Prop} {Q : Exit → Act → World → Prop}
  {ops : Array Oper} {rest : List Oper} {d : Nat} {od : Option Nat} {v x y : Value} {ty : TypeId} {pos : String} {aft : Array Edge} {gd : Option (Nat × Bool)}
  {f : FuncId} {args : List Value} {α ρ : Type} {own : List Asn} {xs : List Operand} {ats : Array TypeId} {c : List PanicEntry}
theorem Sat.behindE {w0 w : World} {D G : Nat → Prop} (s : Sat w0 D G (A ++ B) R w) (hro : Rs R ro) {W : Ending → World → Prop} {P : Program} (sp : SpecE P f args A ro c)
    (k : ∀ w', Sat w0 D G B R w' → W (.panicked c) w') : Calls P f ⟨args⟩ w W := by
  obtain ⟨h, g, st, hin, gin, gh, hd, hg, hr⟩ := s.own
  obtain ⟨h1, h2, rfl, d, hA, hB⟩ := stars_append st
  obtain ⟨i1, i2⟩ := Hp.In.of_un d hin
  obtain ⟨g1, g2⟩ := Dj.of_un_r gh
  refine (sp w h1 g hA i1 gin g1 (fun r' hr' => ?_)).mono ?_
  · obtain ⟨r, hm, im⟩ := hro r' hr'
    obtain ⟨k, x, y⟩ := hr r hm
    exact ⟨k, im k x, y⟩
  · rintro e w' ⟨rfl, s'⟩
    exact k w' (s.after d hB i1 i2 gin g1 g2 hd hg hr s')
/-- A call that leaves by a panic. -/
theorem G.callx (hc : ∀ args w, (callFunc f args).run C.P w = .ok (.enter f args) w) (ha : Evs E xs args E') (sp : SpecE C.P f args A ro c)
    (hL : Sp L A B) (hR : Rs R ro) (k : Post C E' B R (Q (.panic c))) :
    OpG C Q E L R ⟨od, .call ⟨.value (.func f), ⟨xs⟩, ats⟩, ty, pos, aft, gd⟩ (fun _ : Unit => False) (fun _ => []) (fun _ => []) (fun _ => []) := fun a w K he hs _ => by
  obtain ⟨h1, h2⟩ := ha _ a he
  unfold Oper.wp
  rw [run_callOp hc rfl h1, Oper.upon_enter]
  exact Sat.behindE (hs.imp hL) hR sp fun w' hs' => k _ _ h2 hs'
/-- Panic itself. -/
theorem G.pan {o : Operand} {t : TypeId} (h : Ev E o (.iface t v) E') (k : Post C E' L R (Q (.panic [{ v := .iface t v, recovered := false }]))) :
    OpG C Q E L R ⟨od, .panic o, ty, pos, aft, gd⟩ (fun _ : Unit => False) (fun _ => []) (fun _ => []) (fun _ => []) := fun a w K he hs _ => by
  obtain ⟨h1, h2⟩ := h _ a he
  unfold Oper.wp
  have : (execOp a.eval ⟨od, .panic o, ty, pos, aft, gd⟩).run C.P w = .halt (.panic (.iface t v)) w := by
    simp only [execOp, h1]; rfl
  rw [this]
  exact k _ _ h2 hs
theorem P.mki {o : Operand} {t : TypeId} {fs : Array Field} (h : Ev E o v E') (hn : ∀ w, (underlying t).run C.P w = .ok (.struct fs) w) : OpP C E ⟨some d, .makeInterface t o, ty, pos, aft, gd⟩ (.iface t v) E' := fun a w he => by
  obtain ⟨h1, h2⟩ := h _ a he
  refine ⟨?_, h2⟩
  simp [execOp, h1, Instr.makeInterface, hn]
theorem Post.thp (h : Post C E L R (Q (.panic c))) : Post C E L R (Exit.then K Q (.panic c)) := h
theorem Post.inp {id : Nat} (h : Post C E L R (Q (.panic c))) : Post C E L R (Exit.inBlock id Q (.panic c)) := h

/-! ### A body that may panic -/
def bodyQX (P : Program) (fn : Func) (W : Ending → World → Prop) : Exit → Act → World → Prop
  | .normal, a, w | .ret, a, w => LeavesInM (Fw none) 0 P fn a.tmps W a.defers .returning w
  | .panic c, a, w => a.defers = [] ∧ W (.panicked c) w
  | _, _, _ => False
theorem bodyQX_M {P : Program} {fn : Func} {W : Ending → World → Prop} : ∀ e a w, bodyQX P fn W e a w → bodyPostM (Fw none) 0 P fn W e a w := fun e a w h => by
  cases e with
  | normal => exact h
  | ret => exact h
  | panic c =>
    obtain ⟨h1, h2⟩ := h
    show LeavesInM _ _ _ _ _ _ a.defers _ _
    rw [h1]
    exact h2
  | exit _ => exact h.elim
  | goto _ => exact h.elim
  | outgrown => exact h.elim
def RtX (C : Cx) {α ρ : Type} (φ : ρ → α → Prop) (ch : Int → List PanicEntry) (r : Px ρ) (res : ρ → α → Value) (own' ro' : ρ → α → List Asn → List Asn) : Ending → World → Prop :=
  match r with
  | .ok y => Rt C (φ y) (res y) (own' y) (ro' y)
  | .er e => fun en w' => en = .panicked (ch e) ∧ Sat C.w0 C.D C.G [] [] w'
variable {φ : ρ → α → Prop} {ch : Int → List PanicEntry} {res : ρ → α → Value} {own' ro' : ρ → α → List Asn → List Asn}
theorem SpecX.of {P : Program} {fn : Func} {cd : Code} {nt : Nat} {r : Px ρ} (hf : P.funcs[f]? = some fn) (hb : fn.body = some cd) (hn : fn.ntmps = nt) (hl : Nat.ble args.length nt = true)
    (h : ∀ w0 D G, Post ⟨P, ⟨nt, []⟩, w0, D, G, none⟩ (mkE 0 args) own ro (wq ⟨P, ⟨nt, []⟩, w0, D, G, none⟩ cd (bodyQX P fn (RtX ⟨P, ⟨nt, []⟩, w0, D, G, none⟩ φ ch r res own' ro')))) :
    SpecX P f args own ro φ ch r res own' ro' := by
  subst hn
  have key : ∀ (w : World) (hp g : Hp), stars own hp → hp.In w → g.In w → Dj g hp → (∀ r ∈ ro, ∃ k : Hp, r k ∧ Le k g) →
      Calls P f ⟨args⟩ w (RtX ⟨P, ⟨fn.ntmps, []⟩, w, fun b => hp b ≠ none, fun b => g b ≠ none, none⟩ φ ch r res own' ro') := fun w hp g st hin gin gh hr => by
    refine callsOf (n := 0) (callsIn_of_wp_marks hf hb trivial (wpIn_mono ?_ bodyQX_M))
    refine h w (fun b => hp b ≠ none) (fun b => g b ≠ none) _ w (env0 args _ (by simpa using hl)) ?_
    exact ⟨rfl, rfl, rfl, Nat.le_refl _, fun _ _ _ => rfl, hp, g, st, hin, gin, gh, fun b hb => .inl hb, fun b hb => .inl hb, hr⟩
  cases r with
  | ok y => exact key
  | er e => exact key
variable {fn : Func} {yy : ρ} {e : Int}
theorem Post.xok (h : Post C E L R (bodyQ C.P fn (Rt C (φ yy) (res yy) (own' yy) (ro' yy)) .ret)) : Post C E L R (bodyQX C.P fn (RtX C φ ch (.ok yy) res own' ro') .ret) := h
theorem Post.xokn (h : Post C E L R (bodyQ C.P fn (Rt C (φ yy) (res yy) (own' yy) (ro' yy)) .normal)) : Post C E L R (bodyQX C.P fn (RtX C φ ch (.ok yy) res own' ro') .normal) := h
theorem Post.xer (hc : c = ch e) (hd : C.n.df = [] := by rfl) : Post C E L R (bodyQX C.P fn (RtX C φ ch (.er e) res own' ro') (.panic c)) := fun a w he hs => by
  subst hc
  have h1 : Sat C.w0 C.D C.G [] R w := hs.imp fun _ _ => trivial
  exact ⟨by rw [he.2.1, hd], rfl, h1.ro fun _ h => by simp at h⟩
theorem QP.bodx {P : Program} {W : Ending → World → Prop} : QP (bodyQX P fn W) := ⟨fun c d v a w h => ⟨by have := h.1; cases d <;> simpa [Act.put] using this, h.2⟩, fun a w h => h⟩
end
end Go.Sl
