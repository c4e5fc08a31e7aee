/- Small rules that the printer leans on. -/
import Derived.Test.YtjlalcoommhfoaaGreatSlApp
set_option linter.unusedVariables false
set_option linter.unusedSimpArgs false
namespace Go.Sl
section
variable {C : Cx} {E E' E1 E2 E3 : List (Nat × Value)} {L L' L1 R R' : List Asn} {K : Act → World → Prop} {Q : Exit → Act → World → Prop}
  {ops : Array Oper} {rest : List Oper} {d : Nat} {v x y u : Value} {ty : TypeId} {pos : String} {aft : Array Edge} {p q : Asn} {b : Nat} {T t : TypeId} {cs cs' : List Value} {off k n sz : Nat} {gd : Option (Nat × Bool)} {xs ys : List (List Value)}
theorem Post.finw {fn : Func} {α : Type} {φ : α → Prop} {res : α → Value} {own' ro' : α → List Asn → List Asn} (z : α) (h : Fin C fn E L R (res z)) (hφ : φ z) (hl : Ls L (own' z [])) (hr : Rs R (ro' z [])) (hd : C.n.df = [] := by rfl) :
    Post C E L R (bodyQ C.P fn (Rt C φ res own' ro') .ret) := fun a w he hs => by
  show LeavesInM _ _ _ _ _ _ a.defers _ _
  rw [he.2.1, hd]
  exact ⟨_, h a w he hs, _, _, _, rfl, ⟨z, hφ, rfl, rfl, rfl⟩, (hs.imp hl).ro hr⟩
theorem Post.finwn {fn : Func} {α : Type} {φ : α → Prop} {res : α → Value} {own' ro' : α → List Asn → List Asn} (z : α) (h : Fin C fn E L R (res z)) (hφ : φ z) (hl : Ls L (own' z [])) (hr : Rs R (ro' z [])) (hd : C.n.df = [] := by rfl) :
    Post C E L R (bodyQ C.P fn (Rt C φ res own' ro') .normal) := Post.finw z h hφ hl hr hd
theorem Sat.putObj {w0 w : World} {D G : Nat → Prop} {o : Obj} (s : Sat w0 D G (obj b o :: L) R w) (o' : Obj) : Sat w0 D G (obj b o' :: L) R (w.putObj b o') := by
  have hlt : b < w.heap.size := (Array.getElem?_eq_some_iff.1 s.at_).1
  exact s.put o' rfl rfl rfl World.putObj_size (World.putObj_heap_same hlt) fun i hi => World.putObj_heap_other hi
theorem Post.rnil0 (sz : Nat) (h : Post C E L (rows sz nilSl [] :: R) K) : Post C E L R K := fun a w e s => by
  refine h a w e ⟨s.os, s.tape, s.output, s.size, s.keep, ?_⟩
  obtain ⟨hh, g, a1, a2, a3, a4, a5, a6, a7⟩ := s.own
  refine ⟨hh, g, a1, a2, a3, a4, a5, a6, fun r hr => ?_⟩
  rcases List.mem_cons.1 hr with rfl | hm
  · exact ⟨fun _ => none, ⟨by simp, by simp, .inl ⟨rfl, _, _, rfl⟩⟩, fun _ _ e => by simp at e⟩
  · exact a7 r hm
theorem Post.frz (tk : Tk (lst T sz v xs) L L') (h : Post C E L' (rows sz v xs :: R) K) : Post C E L R K :=
  .freeze tk fun a w e s => h a w e (s.ro fun r hr => by
    rcases List.mem_cons.1 hr with rfl | hm
    · exact ⟨_, List.mem_cons_self, fun _ => lst_rows⟩
    · exact ⟨r, List.mem_cons_of_mem _ hm, fun _ x => x⟩)
theorem V.lnr {o : Operand} {st e : TypeId} (h : Ev E o v E') (m : rows sz v xs ∈ R) (hn : xs.length = n) (hu : ∀ w, (underlying st).run C.P w = .ok (.slice e) w) :
    OpV C E L R ⟨some d, .call ⟨.builtin .len, #[o], #[st]⟩, ty, pos, aft, gd⟩ (N n) E' := hn ▸ V.lenr h m hu
theorem V.lnl {o : Operand} {st e : TypeId} (h : Ev E o v E') (tk : Tk (lst T sz v xs) L L') (hn : xs.length = n) (hu : ∀ w, (underlying st).run C.P w = .ok (.slice e) w) :
    OpV C E L R ⟨some d, .call ⟨.builtin .len, #[o], #[st]⟩, ty, pos, aft, gd⟩ (N n) E' := hn ▸ V.lenl h tk hu
theorem P.ixi {o oi : Operand} {st e : TypeId} {i : Nat} {m : Int} (h : Ev E o (N m) E1) (hm : m = i) (h' : Ev E1 oi v E') (hq : IsIx v sz n i b off)
    (hu : ∀ w, (underlying st).run C.P w = .ok (.slice e) w) (hs : ∀ w, (sizeOf e).run C.P w = .ok sz w) :
    OpP C E ⟨some d, .indexAddr st oi o, ty, pos, aft, gd⟩ (pt b off) E' := P.ixs (hm ▸ h) h' hq hu hs
theorem P.iac {o oi : Operand} {s e : TypeId} {len i off' : Nat} {m : Int} (h : Ev E o (N m) E1) (hm : m = i) (h' : Ev E1 oi (pt b off) E') (hu : ∀ w, (underlying s).run C.P w = .ok (.array len e) w)
    (hs : ∀ w, (sizeOf e).run C.P w = .ok n w) (hi : Nat.blt i len = true) (ho : off + i * n = off') : OpP C E ⟨some d, .indexAddr s oi o, ty, pos, aft, gd⟩ (pt b off') E' :=
  P.ia (hm ▸ h) h' hu hs (by simpa using hi) ho
theorem BinV.addc {P} {t : TypeId} {kd : IntKind} {m n z : Int} (h : kd.wrap (m + n) = z) : BinV P .add t (.int kd m) (.int kd n) (.int kd z) := h ▸ BinV.add
theorem BinV.subc {P} {t : TypeId} {kd : IntKind} {m n z : Int} (h : kd.wrap (m - n) = z) : BinV P .sub t (.int kd m) (.int kd n) (.int kd z) := h ▸ BinV.sub
theorem BinV.mulc {P} {t : TypeId} {kd : IntKind} {m n z : Int} (h : kd.wrap (m * n) = z) : BinV P .mul t (.int kd m) (.int kd n) (.int kd z) := h ▸ BinV.mul
theorem BinV.boolc {P} {op : BinOp} {t : TypeId} {x y : Value} {a b : Bool} (h : BinV P op t x y (.bool a)) (e : a = b) : BinV P op t x y (.bool b) := e ▸ h
theorem BinV.intc {P} {op : BinOp} {t : TypeId} {x y : Value} {kd : IntKind} {a b : Int} (h : BinV P op t x y (.int kd a)) (e : a = b) : BinV P op t x y (.int kd b) := e ▸ h
theorem inc_ok {i n : Nat} (h : i + 1 ≤ n) (hn : n ≤ 4611686018427387904) : IntKind.i64.wrap ((i : Int) + 1) = ((i + 1 : Nat) : Int) := by
  have : IntKind.i64.wrap ((i : Int) + 1) = (i : Int) + 1 := IntWalk.i64_in _ (by omega)
  rw [this]; rfl
/-- Is a number a place in a list? -/
def at_ {α : Type} (xs : List α) (m : Int) : Option α := if 0 ≤ m then xs[m.toNat]? else none
theorem at_eq {α : Type} {xs : List α} {m : Int} {x : α} (h : at_ xs m = some x) : ∃ i : Nat, m = i ∧ xs[i]? = some x := by
  unfold at_ at h
  split at h
  · exact ⟨m.toNat, by omega, h⟩
  · cases h
theorem at_ok {α : Type} {xs : List α} {m : Int} (h0 : 0 ≤ m) (h : m < xs.length) : at_ xs m = some (xs[m.toNat]'(by omega)) := by
  unfold at_; rw [if_pos h0]; exact List.getElem?_eq_getElem (by omega)
theorem map_get {α β : Type} {f : α → β} {xs : List α} {i : Nat} {x : α} (h : xs[i]? = some x) : (xs.map f)[i]? = some (f x) := by simp [h]
theorem get_of {α : Type} {xs : List α} {i : Nat} (h : decide ((i : Int) < (xs.length : Nat)) = true) : ∃ x, xs[i]? = some x := by
  have := of_decide_eq_true h
  exact ⟨xs[i]'(by omega), List.getElem?_eq_getElem _⟩
theorem le_of_not {i n : Nat} (h : decide ((i : Int) < (n : Nat)) = false) : n ≤ i := by
  have := of_decide_eq_false h
  omega
theorem lt_of_get {α : Type} {xs : List α} {i : Nat} {x : α} (h : xs[i]? = some x) : i + 1 ≤ xs.length := (List.getElem?_eq_some_iff.1 h).1
theorem map_len {α β : Type} {f : α → β} {xs : List α} : (xs.map f).length = xs.length := List.length_map _
theorem dn_on {σ β : Type} {s : σ} {k : σ → Option β} {r : β} (h : (Lo.dn s).on k = some r) : k s = some r := h
theorem rt_on {σ β : Type} {x : β} {k : σ → Option β} {r : β} (h : (Lo.rt x : Lo σ β).on k = some r) : x = r := Option.some.inj h
theorem map_lrt {σ β : Type} {S : Option β} {c : Lo σ β} (h : Option.map Lo.rt S = some c) : ∃ x, S = some x ∧ c = .rt x := by
  cases S with
  | none => cases h
  | some x => exact ⟨x, rfl, (Option.some.inj h).symm⟩
theorem map_rt {σ β : Type} {S : Option β} {c : Ct σ β} (h : Option.map Ct.rt S = some c) : ∃ x, S = some x ∧ c = .rt x := by
  cases S with
  | none => cases h
  | some x => exact ⟨x, rfl, (Option.some.inj h).symm⟩
theorem bld_run {P : Program} {t : TypeId} {places : Array (Nat × Nat)} {z : Value} {parts : List (Nat × Value)} {cs : List Value} {fs : Array Field} (hz : ∀ w, (zeroValue t).run P w = .ok z w)
    (hu : ∀ w, (underlying t).run P w = .ok (.struct fs) w) (hp : ∀ w, (fs.mapM fun f => do pure (f.offset, ← sizeOf f.type) : Sem (Array (Nat × Nat))).run P w = .ok places w)
    (hf : Instr.fill (places[·]?) z.cells parts = some ⟨cs⟩) : ∀ w, (Instr.build t ⟨parts⟩).run P w = .ok (Ag cs) w := fun w => by
  simp only [Instr.build, Sem.run_bind, hz, hu, Result.andThen_ok, hp, hf]
  rfl
theorem bld_runA {P : Program} {t e : TypeId} {z : Value} {parts : List (Nat × Value)} {cs : List Value} {n s : Nat} (hz : ∀ w, (zeroValue t).run P w = .ok z w)
    (hu : ∀ w, (underlying t).run P w = .ok (.array n e) w) (hs : ∀ w, (sizeOf e).run P w = .ok s w)
    (hf : Instr.fill (fun i => some (i * s, s)) z.cells parts = some ⟨cs⟩) : ∀ w, (Instr.build t ⟨parts⟩).run P w = .ok (Ag cs) w := fun w => by
  simp only [Instr.build, Sem.run_bind, hz, hu, Result.andThen_ok, hs, hf]
  rfl
end
end Go.Sl
