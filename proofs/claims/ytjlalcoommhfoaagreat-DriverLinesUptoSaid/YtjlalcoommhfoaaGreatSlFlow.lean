/- Ways that meet, loops, and the words in which pure functions are told. -/
import Derived.Test.YtjlalcoommhfoaaGreatSlIdx
set_option linter.unusedVariables false
namespace Go.Sl

/-! ### The words of pure functions -/
def thn {α β : Type} (a : α) (f : α → β) : β := f a
theorem thn_eq {α β : Type} {a : α} {f : α → β} {r : β} (h : thn a f = r) : ∃ y, a = y ∧ f y = r := ⟨a, rfl, h⟩
theorem bnd_eq {α β : Type} {a : Option α} {f : α → Option β} {r : β} (h : Option.bind a f = some r) : ∃ y, a = some y ∧ f y = some r := Option.bind_eq_some_iff.1 h
def grd {β : Type} (p : Prop) [Decidable p] (x : Option β) : Option β := if p then x else none
theorem grd_eq {β : Type} {p : Prop} [Decidable p] {x : Option β} {r : β} (h : grd p x = some r) : p ∧ x = some r := by
  unfold grd at h; split at h
  · exact ⟨‹_›, h⟩
  · cases h
theorem grd_pos {β : Type} {p : Prop} [Decidable p] {x : Option β} (h : p) : grd p x = x := if_pos h
/-- How a round ends: the next one, a break, a return. -/
inductive Ct (σ β : Type) where
  | nx (s : σ)
  | br (s : σ)
  | rt (r : β)
/-- How a loop ends. -/
inductive Lo (σ β : Type) where
  | dn (s : σ)
  | rt (r : β)
def Lo.on {σ β : Type} (o : Lo σ β) (k : σ → Option β) : Option β := match o with | .dn s => k s | .rt r => some r
/-- A loop over a list. -/
def loopR {α σ β : Type} (f : Nat → α → σ → Option (Ct σ β)) : Nat → List α → σ → Option (Lo σ β)
  | _, [], s => some (.dn s)
  | i, x :: xs, s => (f i x s).bind fun | .nx s' => loopR f (i + 1) xs s' | .br s' => some (.dn s') | .rt r => some (.rt r)
theorem loopR_at {α σ β : Type} {f : Nat → α → σ → Option (Ct σ β)} {xs : List α} {i : Nat} {s : σ} {o : Lo σ β} {x : α} (hx : xs[i]? = some x) (h : loopR f i (xs.drop i) s = some o) :
    ∃ c, f i x s = some c ∧ match c with | .nx s' => loopR f (i + 1) (xs.drop (i + 1)) s' = some o | .br s' => o = .dn s' | .rt r => o = .rt r := by
  have hlt := (List.getElem?_eq_some_iff.1 hx).1
  have he : xs.drop i = x :: xs.drop (i + 1) := by
    rw [List.drop_eq_getElem_cons hlt]; congr 1; exact (List.getElem?_eq_some_iff.1 hx).2
  rw [he, loopR] at h
  obtain ⟨c, hc, h⟩ := Option.bind_eq_some_iff.1 h
  refine ⟨c, hc, ?_⟩
  cases c <;> simp at h ⊢ <;> first | exact h | exact h.symm
theorem loopR_end {α σ β : Type} {f : Nat → α → σ → Option (Ct σ β)} {xs : List α} {i : Nat} {s : σ} {o : Lo σ β} (hx : xs.length ≤ i) (h : loopR f i (xs.drop i) s = some o) : o = .dn s := by
  rw [List.drop_of_length_le hx, loopR] at h
  exact (Option.some.inj h).symm
/-- A loop by rounds. -/
def loopK {σ β : Type} (f : σ → Option (Ct σ β)) : Nat → σ → Option (Lo σ β)
  | 0, _ => none
  | n + 1, s => (f s).bind fun | .nx s' => loopK f n s' | .br s' => some (.dn s') | .rt r => some (.rt r)
theorem loopK_mono {σ β : Type} {f : σ → Option (Ct σ β)} : ∀ {n : Nat} {s : σ} {o : Lo σ β}, loopK f n s = some o → ∀ m, n ≤ m → loopK f m s = some o := by
  intro n
  induction n with
  | zero => intro s o h; simp [loopK] at h
  | succ n ih =>
    intro s o h m hm
    obtain ⟨m, rfl⟩ : ∃ k, m = k + 1 := ⟨m - 1, by omega⟩
    simp only [loopK] at h ⊢
    obtain ⟨c, hc, h⟩ := Option.bind_eq_some_iff.1 h
    rw [hc]
    cases c with
    | nx s' => exact ih h m (by omega)
    | br s' => exact h
    | rt r => exact h
open Classical in
noncomputable def loopW {σ β : Type} (f : σ → Option (Ct σ β)) (s : σ) : Option (Lo σ β) :=
  if h : ∃ n o, loopK f n s = some o then some (Classical.choose (Classical.choose_spec h)) else none
theorem loopW_of {σ β : Type} {f : σ → Option (Ct σ β)} {s : σ} {o : Lo σ β} {n : Nat} (h : loopK f n s = some o) : loopW f s = some o := by
  have hh : ∃ n o, loopK f n s = some o := ⟨n, o, h⟩
  unfold loopW
  rw [dif_pos hh]
  have h1 := Classical.choose_spec (Classical.choose_spec hh)
  have h2 := loopK_mono h (max n (Classical.choose hh)) (by omega)
  have h3 := loopK_mono h1 (max n (Classical.choose hh)) (by omega)
  rw [h2] at h3
  exact h3.symm
theorem loopW_k {σ β : Type} {f : σ → Option (Ct σ β)} {s : σ} {o : Lo σ β} (h : loopW f s = some o) : ∃ n, loopK f n s = some o := by
  unfold loopW at h
  split at h
  · rename_i hh
    have h1 := Classical.choose_spec (Classical.choose_spec hh)
    rw [Option.some.inj h] at h1
    exact ⟨_, h1⟩
  · cases h
theorem loopK_at {σ β : Type} {f : σ → Option (Ct σ β)} {n : Nat} {s : σ} {o : Lo σ β} (h : loopK f n s = some o) :
    ∃ c, f s = some c ∧ match c with | .nx s' => ∃ m, m < n ∧ loopK f m s' = some o | .br s' => o = .dn s' | .rt r => o = .rt r := by
  cases n with
  | zero => simp [loopK] at h
  | succ n =>
    simp only [loopK] at h
    obtain ⟨c, hc, h⟩ := Option.bind_eq_some_iff.1 h
    refine ⟨c, hc, ?_⟩
    cases c <;> simp at h ⊢ <;> first | exact ⟨n, by omega, h⟩ | exact h.symm

section
variable {C : Cx} {E E' E1 E2 E3 : List (Nat × Value)} {L L' L1 R R' : List Asn} {K : Act → World → Prop} {Q : Exit → Act → World → Prop}
def Es (E E1 : List (Nat × Value)) : Prop := ∀ x ∈ E1, x ∈ E
theorem Es.nil : Es E [] := fun _ h => by simp at h
theorem Es.cons {x : Nat × Value} (m : x ∈ E) (h : Es E E1) : Es E (x :: E1) := fun y hy => by
  rcases List.mem_cons.1 hy with rfl | hh
  · exact m
  · exact h y hh
def Ls (L L1 : List Asn) : Prop := ∀ h, stars L h → stars L1 h
theorem Ls.of {B : List Asn} (s : Sp L L1 B) : Ls L L1 := fun h st => by
  obtain ⟨h1, h2, rfl, d, ha, hb⟩ := stars_append (s h st)
  have := stars_join (B := []) d ha trivial
  rwa [List.append_nil] at this
theorem Post.to (he : Es E E1) (hl : Ls L L1) (hr : Rs R R') (h : Post C E1 L1 R' K) : Post C E L R K := fun a w e s =>
  h a w ⟨e.1, e.2.1, fun x hx => e.2.2 x (he x hx)⟩ ((s.imp hl).ro hr)
theorem Post.stj {γ : Type} {E1 : γ → List (Nat × Value)} {L1 R1 : γ → List Asn} (z : γ) (he : Es E (E1 z)) (hl : Ls L (L1 z)) (hr : Rs R (R1 z)) :
    Post C E L R (Exit.then (fun a w => ∃ z, St C (E1 z) (L1 z) (R1 z) a w) Q .normal) := fun a w e s =>
  ⟨z, ⟨e.1, e.2.1, fun x hx => e.2.2 x (he x hx)⟩, (s.imp hl).ro hr⟩
theorem Post.cutx {γ : Type} {E1 : γ → List (Nat × Value)} {L1 R1 : γ → List Asn} {c c' : Code} (h1 : Post C E L R (wq C c (Exit.then (fun a w => ∃ z, St C (E1 z) (L1 z) (R1 z) a w) Q)))
    (h2 : ∀ z, Post C (E1 z) (L1 z) (R1 z) (wq C c' Q)) : Post C E L R (wq C (Code.seq c c') Q) :=
  .cut h1 fun a w ⟨z, e, s⟩ => h2 z a w e s
theorem Post.cuty {σ γ : Type} {F : σ → Prop} {E1 : σ → γ → List (Nat × Value)} {L1 R1 : σ → γ → List Asn} {c c' : Code}
    (h1 : Post C E L R (wq C c (Exit.then (fun a w => ∃ s z, F s ∧ St C (E1 s z) (L1 s z) (R1 s z) a w) Q)))
    (h2 : ∀ s z, F s → Post C (E1 s z) (L1 s z) (R1 s z) (wq C c' Q)) : Post C E L R (wq C (Code.seq c c') Q) :=
  .cut h1 fun a w ⟨s, z, hf, e, st⟩ => h2 s z hf a w e st
theorem Post.cuto {σ β γ : Type} {o : Lo σ β} {k : σ → Option β} {r : β} (H : Lo.on o k = some r) {E1 : σ → γ → List (Nat × Value)} {L1 R1 : σ → γ → List Asn} {c c' : Code}
    (h1 : Post C E L R (wq C c (Exit.then (fun a w => ∃ s z, k s = some r ∧ St C (E1 s z) (L1 s z) (R1 s z) a w) Q)))
    (h2 : ∀ s z, k s = some r → Post C (E1 s z) (L1 s z) (R1 s z) (wq C c' Q)) : Post C E L R (wq C (Code.seq c c') Q) := .cuty h1 h2
theorem Post.sty {σ β γ : Type} {k : σ → Option β} {r : β} {E1 : σ → γ → List (Nat × Value)} {L1 R1 : σ → γ → List Asn} (s : σ) (z : γ) (hf : k s = some r) (he : Es E (E1 s z)) (hl : Ls L (L1 s z)) (hr : Rs R (R1 s z)) :
    Post C E L R (Exit.then (fun a w => ∃ s z, k s = some r ∧ St C (E1 s z) (L1 s z) (R1 s z) a w) Q .normal) := fun a w e st =>
  ⟨s, z, hf, ⟨e.1, e.2.1, fun x hx => e.2.2 x (he x hx)⟩, (st.imp hl).ro hr⟩
/-- The same state, told of any values that the rest is right for. -/
theorem Post.told {σ β γ : Type} {o : Lo σ β} {k : σ → Option β} {r : β} {s : σ} (H : Lo.on o k = some r) (ho : o = .dn s) (E1 : σ → γ → List (Nat × Value)) (L1 R1 : σ → γ → List Asn) (z : γ)
    (he : Es E (E1 s z)) (hl : Ls L (L1 s z)) (hr : Rs R (R1 s z)) (h : ∀ s z, k s = some r → Post C (E1 s z) (L1 s z) (R1 s z) K) : Post C E L R K := fun a w e st =>
  h s z (by subst ho; exact H) a w ⟨e.1, e.2.1, fun x hx => e.2.2 x (he x hx)⟩ ((st.imp hl).ro hr)
theorem Post.dst {γ : Type} {φ : γ → Prop} {E1 : γ → List (Nat × Value)} {L1 R1 : γ → List Asn} (x : γ) (hx : φ x) (he : Es E (E1 x)) (hl : Ls L (L1 x)) (hr : Rs R (R1 x)) :
    Post C E L R (Exit.then (fun a w => ∃ x, φ x ∧ St C (E1 x) (L1 x) (R1 x) a w) Q .normal) := fun a w e s =>
  ⟨x, hx, ⟨e.1, e.2.1, fun y hy => e.2.2 y (he y hy)⟩, (s.imp hl).ro hr⟩
/-- As 'draw'; what the loads look at is a part of the state alone. -/
theorem Post.drawl {ops : Array Oper} {id : Nat} (L0 R0 : List Asn) (hl : Ls L L0) (hr : Rs R R0) (m : Nat) (plan : Pl) (hm : C.P.follows .mixedOrders = true) (hq : QP Q) (hc : chk2 ops m plan = true)
    (h : Post C E L R (lin C.P ops Q (Sat C.w0 C.D C.G L0 R0) m false plan)) : Post C E L R (wq C (Code.region id ops true) Q) := fun a w he hs => by
  simp only [chk2, Bool.and_eq_true] at hc
  obtain ⟨⟨h1, h2⟩, h3⟩ := hc
  refine wpIn_region_any hm (wpAny_in h2 hq.2 _ _ _ _ (anyM_any _ _ _ _ (lin_any h1 hq.1 plan _ _ a _ false ?_ (.inr (((hs.imp hl).ro hr).drewn _)) (by simp) h3 (h _ _ he (hs.drewn _)))))
  simp [Array.getD, Array.getElem_replicate]
theorem OpV.g0 {L R : List Asn} {d : Nat} {v : Value} {ty : TypeId} {pos : String} {aft : Array Edge} {o : Op} {gd : Option (Nat × Bool)} (h : OpV C E L R ⟨some d, o, ty, pos, aft, gd⟩ v E') (hd : (E'.all fun x => x.1 != d) = true) :
    OpG C Q E L R ⟨some d, o, ty, pos, aft, gd⟩ (fun _ : Unit => True) (fun _ => E') (fun _ => L) (fun _ => R) := fun a w K he hs k => by
  obtain ⟨hr, he'⟩ := h a w he hs
  unfold Oper.wp
  rw [hr]
  exact k () trivial _ _ (he'.putn hd) hs
theorem Post.dskl {ops : Array Oper} {d i m : Nat} {o : Oper} {S0 : World → Prop} {z : Bool} {rest : Pl} (ho : ops[i]? = some o) (hw : Wn E ops o false) (hS : ∀ w, Sat C.w0 C.D C.G L R w → S0 w) (hd : o.dst = some d) (hf : (E.all fun x => x.1 != d) = true)
    (k : Post C E L R (lin C.P ops Q S0 m z rest)) : Post C E L R (lin C.P ops Q S0 m z (.on i .ld rest)) := fun a w he hs =>
  ⟨o, undef, ho, .inr ⟨hw _ a he, rfl⟩, hS w hs, by rw [hd]; exact k _ _ (he.putn hf) hs⟩
theorem Post.dskg {ops : Array Oper} {d i m : Nat} {o : Oper} {S0 : World → Prop} {z : Bool} {rest : Pl} (ho : ops[i]? = some o) (hw : Wn E ops o false) (hS : (z || i == m) = true ∨ ∀ w, Sat C.w0 C.D C.G L R w → S0 w) (hd : o.dst = some d) (hf : (E.all fun x => x.1 != d) = true)
    (k : Post C E L R (lin C.P ops Q S0 m (z || i == m) rest)) : Post C E L R (lin C.P ops Q S0 m z (.on i .go rest)) := fun a w he hs => by
  unfold lin linG wpOp
  simp only [ho, hw _ a he, Bool.false_eq_true, if_false]
  exact ⟨hS.imp id fun f => f w hs, by rw [hd]; exact k _ _ (he.putn hf) hs⟩
theorem Post.dskn {ops : Array Oper} {i m : Nat} {o : Oper} {S0 : World → Prop} {z : Bool} {rest : Pl} (ho : ops[i]? = some o) (hw : Wn E ops o false) (hS : (z || i == m) = true ∨ ∀ w, Sat C.w0 C.D C.G L R w → S0 w) (hd : o.dst = none)
    (k : Post C E L R (lin C.P ops Q S0 m (z || i == m) rest)) : Post C E L R (lin C.P ops Q S0 m z (.on i .go rest)) := fun a w he hs => by
  unfold lin linG wpOp
  simp only [ho, hw _ a he, Bool.false_eq_true, if_false]
  exact ⟨hS.imp id fun f => f w hs, by rw [hd]; exact k _ _ he hs⟩
theorem Post.thx {id : Nat} (h : Post C E L R (Q (.exit id))) : Post C E L R (Exit.then K Q (.exit id)) := h
theorem Post.thr (h : Post C E L R (Q .ret)) : Post C E L R (Exit.then K Q .ret) := h
theorem Post.inn {id : Nat} (h : Post C E L R (Q .normal)) : Post C E L R (Exit.inBlock id Q .normal) := h
theorem Post.inr {id : Nat} (h : Post C E L R (Q .ret)) : Post C E L R (Exit.inBlock id Q .ret) := h
theorem Post.rounds {c : Code} (n : Nat) (h : Post C E L R (Code.roundsIn (Fw C.r) 0 C.P c Q n)) : Post C E L R (wq C (Code.loop c) Q) := fun a w e s => wpIn_loop_rounds n (h a w e s)
theorem Post.rd {c : Code} {n : Nat} (h : Post C E L R (wq C c (Exit.then (Code.roundsIn (Fw C.r) 0 C.P c Q n) Q))) : Post C E L R (Code.roundsIn (Fw C.r) 0 C.P c Q (n + 1)) := h
/-- What a round of a loop over a list comes to. -/
def RdR (C : Cx) {α σ β γ : Type} (f : Nat → α → σ → Option (Ct σ β)) (xs : List α) (o : Lo σ β) (EH : Nat → σ → γ → List (Nat × Value)) (LH RH : σ → γ → List Asn) (i : Nat) : Act → World → Prop :=
  fun a w => ∃ s z, loopR f (i + 1) (xs.drop (i + 1)) s = some o ∧ i + 1 ≤ xs.length ∧ St C (EH (i + 1) s z) (LH s z) (RH s z) a w
theorem Post.loopR {α σ β γ : Type} {f : Nat → α → σ → Option (Ct σ β)} {xs : List α} {o : Lo σ β} (EH : Nat → σ → γ → List (Nat × Value)) (LH RH : σ → γ → List Asn) {c : Code} {s0 : σ} (z0 : γ)
    (H : Sl.loopR f 0 xs s0 = some o) (he : Es E (EH 0 s0 z0)) (hl : Ls L (LH s0 z0)) (hr : Rs R (RH s0 z0))
    (hx : ∀ i s z, i ≤ xs.length → Sl.loopR f i (xs.drop i) s = some o → Post C (EH i s z) (LH s z) (RH s z) (wq C c (Exit.then (RdR C f xs o EH LH RH i) Q))) :
    Post C E L R (wq C (Code.loop c) Q) := fun a w e s => by
  refine wpIn_loop_by (fun k a w => ∃ i s z, i + k = xs.length ∧ Sl.loopR f i (xs.drop i) s = some o ∧ St C (EH i s z) (LH s z) (RH s z) a w) xs.length ⟨0, s0, z0, by omega, by simpa using H, ⟨e.1, e.2.1, fun x hx => e.2.2 x (he x hx)⟩, (s.imp hl).ro hr⟩ ?_
  rintro k a w ⟨i, s, z, hik, hrun, he, hs⟩
  refine wpIn_mono (hx i s z (by omega) hrun a w he hs) fun e a' w' q => ?_
  cases e <;> first | exact q | skip
  obtain ⟨s', z', h1, h2, h3⟩ := q
  exact ⟨xs.length - (i + 1), by omega, i + 1, s', z', by omega, h1, h3⟩
theorem Post.rdR {α σ β γ : Type} {f : Nat → α → σ → Option (Ct σ β)} {xs : List α} {o : Lo σ β} {EH : Nat → σ → γ → List (Nat × Value)} {LH RH : σ → γ → List Asn} {i : Nat} (s : σ) (z : γ)
    (h1 : Sl.loopR f (i + 1) (xs.drop (i + 1)) s = some o) (h2 : i + 1 ≤ xs.length) (he : Es E (EH (i + 1) s z)) (hl : Ls L (LH s z)) (hr : Rs R (RH s z)) :
    Post C E L R (Exit.then (RdR C f xs o EH LH RH i) Q .normal) := fun a w e st =>
  ⟨s, z, h1, h2, ⟨e.1, e.2.1, fun x hx => e.2.2 x (he x hx)⟩, (st.imp hl).ro hr⟩
def RdW (C : Cx) {σ β γ : Type} (f : σ → Option (Ct σ β)) (o : Lo σ β) (EH : σ → γ → List (Nat × Value)) (LH RH : σ → γ → List Asn) (n : Nat) : Act → World → Prop :=
  fun a w => ∃ m s z, m < n ∧ Sl.loopK f m s = some o ∧ St C (EH s z) (LH s z) (RH s z) a w
theorem Post.loopW {σ β γ : Type} {f : σ → Option (Ct σ β)} {o : Lo σ β} (EH : σ → γ → List (Nat × Value)) (LH RH : σ → γ → List Asn) {c : Code} {s0 : σ} (z0 : γ)
    (H : Sl.loopW f s0 = some o) (he : Es E (EH s0 z0)) (hl : Ls L (LH s0 z0)) (hr : Rs R (RH s0 z0))
    (hx : ∀ n s z, Sl.loopK f n s = some o → Post C (EH s z) (LH s z) (RH s z) (wq C c (Exit.then (RdW C f o EH LH RH n) Q))) :
    Post C E L R (wq C (Code.loop c) Q) := fun a w e s => by
  obtain ⟨n, hn⟩ := loopW_k H
  refine wpIn_loop_by (fun k a w => ∃ s z, Sl.loopK f k s = some o ∧ St C (EH s z) (LH s z) (RH s z) a w) n ⟨s0, z0, hn, ⟨e.1, e.2.1, fun x hx => e.2.2 x (he x hx)⟩, (s.imp hl).ro hr⟩ ?_
  rintro k a w ⟨s, z, hrun, he, hs⟩
  refine wpIn_mono (hx k s z hrun a w he hs) fun e a' w' q => ?_
  cases e <;> first | exact q | skip
  obtain ⟨m, s', z', h1, h2, h3⟩ := q
  exact ⟨m, h1, s', z', h2, h3⟩
theorem Post.rdW {σ β γ : Type} {f : σ → Option (Ct σ β)} {o : Lo σ β} {EH : σ → γ → List (Nat × Value)} {LH RH : σ → γ → List Asn} {n m : Nat} (s : σ) (z : γ)
    (h1 : m < n) (h2 : Sl.loopK f m s = some o) (he : Es E (EH s z)) (hl : Ls L (LH s z)) (hr : Rs R (RH s z)) :
    Post C E L R (Exit.then (RdW C f o EH LH RH n) Q .normal) := fun a w e st =>
  ⟨m, s, z, h1, h2, ⟨e.1, e.2.1, fun x hx => e.2.2 x (he x hx)⟩, (st.imp hl).ro hr⟩
end
end Go.Sl
