/- Separation-logic rules over the kit's 'wp': heaps, what is owned and what is only read, and how the state of a walk is told. -/
import Derived.WalkKit
import Derived.OrdersHeld
set_option linter.unusedVariables false
namespace Go.Sl

/-! ### Parts of a heap -/
abbrev Hp := Nat → Option Obj
def Hp.In (h : Hp) (w : World) : Prop := ∀ b o, h b = some o → w.heap[b]? = some o
def Dj (h k : Hp) : Prop := ∀ b, h b = none ∨ k b = none
def un (h k : Hp) : Hp := fun b => (h b).or (k b)
def single (b : Nat) (o : Obj) : Hp := fun i => if i = b then some o else none
abbrev Asn := Hp → Prop

theorem Dj.symm {h k : Hp} (d : Dj h k) : Dj k h := fun b => (d b).symm
theorem un_comm {h k : Hp} (d : Dj h k) : un h k = un k h := by
  funext b; unfold un; rcases d b with e | e <;> simp [e]
theorem un_assoc (h k l : Hp) : un (un h k) l = un h (un k l) := by
  funext b; unfold un; cases h b <;> simp
theorem un_none {h k : Hp} {b : Nat} (e : un h k b = none) : h b = none ∧ k b = none := by
  unfold un at e; cases hb : h b <;> simp_all
theorem un_ne {h k : Hp} {b : Nat} (e : un h k b ≠ none) : h b ≠ none ∨ k b ≠ none := by
  unfold un at e; cases hb : h b <;> simp_all
theorem ne_un_l {h k : Hp} {b : Nat} (e : h b ≠ none) : un h k b ≠ none := by
  unfold un; cases hb : h b <;> simp_all
theorem ne_un_r {h k : Hp} {b : Nat} (e : k b ≠ none) : un h k b ≠ none := by
  unfold un; cases hb : h b <;> simp_all
theorem Dj.un_l {h k l : Hp} (a : Dj h l) (b : Dj k l) : Dj (un h k) l := fun i => by
  rcases a i with e | e <;> rcases b i with f | f <;> simp [un, e, f]
theorem Dj.un_r {h k l : Hp} (a : Dj h k) (b : Dj h l) : Dj h (un k l) := (Dj.un_l a.symm b.symm).symm
theorem Dj.of_un_l {h k l : Hp} (a : Dj (un h k) l) : Dj h l ∧ Dj k l :=
  ⟨fun i => (a i).imp (fun e => (un_none e).1) id, fun i => (a i).imp (fun e => (un_none e).2) id⟩
theorem Dj.of_un_r {h k l : Hp} (a : Dj h (un k l)) : Dj h k ∧ Dj h l :=
  let ⟨x, y⟩ := Dj.of_un_l a.symm; ⟨x.symm, y.symm⟩
theorem Hp.In.un {h k : Hp} {w : World} (a : h.In w) (b : k.In w) : (un h k).In w := fun i o e => by
  unfold Sl.un at e
  cases hb : h i with
  | some x => rw [hb] at e; simp at e; subst e; exact a i _ hb
  | none => rw [hb] at e; simp at e; exact b i _ e
theorem Hp.In.of_un {h k : Hp} {w : World} (d : Dj h k) (a : (Sl.un h k).In w) : h.In w ∧ k.In w := by
  refine ⟨fun i o e => a i o (by simp [Sl.un, e]), fun i o e => a i o ?_⟩
  rcases d i with f | f
  · simp [Sl.un, e, f]
  · simp [f] at e
theorem Hp.In.lt {h : Hp} {w : World} (a : h.In w) {b : Nat} (e : h b ≠ none) : b < w.heap.size := by
  cases hb : h b with
  | none => exact absurd hb e
  | some o => exact (Array.getElem?_eq_some_iff.1 (a b o hb)).1

/-! ### Lists of assertions, each of a part of its own; what is left over is nobody's -/
def stars : List Asn → Asn
  | [] => fun _ => True
  | p :: L => fun h => ∃ h1 h2, h = un h1 h2 ∧ Dj h1 h2 ∧ p h1 ∧ stars L h2

theorem stars_swap {p q : Asn} {L : List Asn} {h : Hp} (s : stars (p :: q :: L) h) : stars (q :: p :: L) h := by
  obtain ⟨h1, h2, rfl, d, hp, h3, h4, rfl, d', hq, hl⟩ := s
  obtain ⟨da, db⟩ := Dj.of_un_r d
  refine ⟨h3, un h1 h4, ?_, Dj.un_r da.symm d', hq, h1, h4, rfl, db, hp, hl⟩
  rw [← un_assoc, ← un_assoc, un_comm da]
theorem stars_tail {p : Asn} {L L' : List Asn} (f : ∀ h, stars L h → stars L' h) {h : Hp} (s : stars (p :: L) h) : stars (p :: L') h := by
  obtain ⟨h1, h2, rfl, d, hp, hl⟩ := s
  exact ⟨h1, h2, rfl, d, hp, f _ hl⟩

/-- Number k is taken to the front. -/
def Tk {α : Type} (p : α) (L L' : List α) : Prop := ∃ A B, L = A ++ p :: B ∧ L' = A ++ B
theorem Tk.here {α : Type} {p : α} {L : List α} : Tk p (p :: L) L := ⟨[], L, rfl, rfl⟩
theorem Tk.there {α : Type} {p q : α} {L L' : List α} (t : Tk p L L') : Tk p (q :: L) (q :: L') := by
  obtain ⟨A, B, rfl, rfl⟩ := t; exact ⟨q :: A, B, rfl, rfl⟩
theorem stars_take {p : Asn} {L L' : List Asn} (t : Tk p L L') : ∀ {h : Hp}, stars L h → stars (p :: L') h := by
  obtain ⟨A, B, rfl, rfl⟩ := t
  induction A with
  | nil => exact fun s => s
  | cons q A ih => exact fun s => stars_swap (stars_tail (fun _ => ih) s)
theorem stars_append {A B : List Asn} {h : Hp} (s : stars (A ++ B) h) : ∃ h1 h2, h = un h1 h2 ∧ Dj h1 h2 ∧ stars A h1 ∧ stars B h2 := by
  induction A generalizing h with
  | nil => exact ⟨fun _ => none, h, by funext b; simp [un], fun _ => .inl rfl, trivial, s⟩
  | cons p A ih =>
    obtain ⟨h1, h2, rfl, d, hp, hl⟩ := s
    obtain ⟨h3, h4, rfl, d', ha, hb⟩ := ih hl
    obtain ⟨da, db⟩ := Dj.of_un_r d
    exact ⟨un h1 h3, h4, by rw [un_assoc], Dj.un_l db d', ⟨h1, h3, rfl, da, hp, ha⟩, hb⟩
theorem stars_join {A B : List Asn} {h1 h2 : Hp} (d : Dj h1 h2) (a : stars A h1) (b : stars B h2) : stars (A ++ B) (un h1 h2) := by
  induction A generalizing h1 with
  | nil =>
    -- what is left over joins the last
    clear a
    induction B generalizing h1 h2 with
    | nil => trivial
    | cons q B ih =>
      obtain ⟨h3, h4, rfl, d', hq, hb⟩ := b
      obtain ⟨da, db⟩ := Dj.of_un_r d
      refine ⟨h3, un h1 h4, ?_, Dj.un_r da.symm d', hq, ih hb db⟩
      rw [← un_assoc, ← un_assoc, un_comm da]
  | cons p A ih =>
    obtain ⟨h3, h4, rfl, d', hp, ha⟩ := a
    obtain ⟨da, db⟩ := Dj.of_un_l d
    exact ⟨h3, un h4 h2, by rw [un_assoc], Dj.un_r d' da, hp, ih db ha⟩

/-! ### A block, whole -/
def blk (b : Nat) (T : TypeId) (cs : List Value) : Asn := fun h => h = single b (.cells ⟨cs⟩ T (0, 0))
def obj (b : Nat) (o : Obj) : Asn := fun h => h = single b o

/-! ### The state of the world in a walk: what stood at the beginning and is not ours is as it was -/
def Le (k g : Hp) : Prop := ∀ b o, k b = some o → g b = some o
theorem Le.refl (k : Hp) : Le k k := fun _ _ e => e
theorem Le.trans {a b c : Hp} (x : Le a b) (y : Le b c) : Le a c := fun i o e => y i o (x i o e)
theorem Le.ne {k g : Hp} (l : Le k g) {b : Nat} (e : k b ≠ none) : g b ≠ none := by
  cases f : k b with
  | none => exact absurd f e
  | some o => rw [l b o f]; simp
theorem Le.inw {k g : Hp} (l : Le k g) {w : World} (i : g.In w) : k.In w := fun b o e => i b o (l b o e)
theorem Le.dj {k g h : Hp} (l : Le k g) (d : Dj g h) : Dj k h := fun b => by
  cases f : k b with
  | none => exact .inl rfl
  | some o => right; rcases d b with e | e; · rw [l b o f] at e; simp at e
              · exact e
theorem Le.un_l (h k : Hp) : Le h (un h k) := fun b o e => by simp [un, e]
theorem Le.un_r {h k : Hp} {w : World} (a : h.In w) (b : k.In w) : Le k (un h k) := fun i o e => by
  unfold un
  cases f : h i with
  | none => simpa using e
  | some x =>
    have h1 := a i x f
    have h2 := b i o e
    rw [h1] at h2
    simpa using h2
/-- D: the blocks that were handed over at the beginning (w0); G: those that may be read besides. -/
structure Sat (w0 : World) (D G : Nat → Prop) (L R : List Asn) (w : World) : Prop where
  os : w.os = w0.os
  tape : w.tape = w0.tape
  output : w.output = w0.output
  size : w0.heap.size ≤ w.heap.size
  keep : ∀ b, b < w0.heap.size → ¬ D b → w.heap[b]? = w0.heap[b]?
  own : ∃ h g : Hp, stars L h ∧ h.In w ∧ g.In w ∧ Dj g h ∧ (∀ b, h b ≠ none → D b ∨ w0.heap.size ≤ b) ∧
    (∀ b, g b ≠ none → G b ∨ D b ∨ w0.heap.size ≤ b) ∧ ∀ r ∈ R, ∃ k : Hp, r k ∧ Le k g

section
variable {w0 w w' : World} {D G : Nat → Prop} {L L' R R' : List Asn} {p q : Asn} {b : Nat} {o : Obj} {T : TypeId} {cs : List Value}

theorem Sat.imp (s : Sat w0 D G L R w) (f : ∀ h, stars L h → stars L' h) : Sat w0 D G L' R w :=
  let ⟨h, g, a, r⟩ := s.own
  ⟨s.os, s.tape, s.output, s.size, s.keep, h, g, f h a, r⟩
theorem Sat.take (s : Sat w0 D G L R w) (t : Tk p L L') : Sat w0 D G (p :: L') R w := s.imp fun _ => stars_take t
theorem Sat.conseq (s : Sat w0 D G (p :: L) R w) (f : ∀ h, p h → q h) : Sat w0 D G (q :: L) R w :=
  s.imp fun _ ⟨a, b, c, d, e, g⟩ => ⟨a, b, c, d, f _ e, g⟩
theorem Sat.drop (s : Sat w0 D G (p :: L) R w) : Sat w0 D G L R w := s.imp fun h st => by
  obtain ⟨h1, h2, rfl, d, hp, hl⟩ := st
  exact stars_join (A := []) d trivial hl
theorem Sat.ro (s : Sat w0 D G L R w) (f : ∀ r' ∈ R', ∃ r ∈ R, ∀ h, r h → r' h) : Sat w0 D G L R' w :=
  let ⟨h, g, a, b, c, d, e, i, j⟩ := s.own
  ⟨s.os, s.tape, s.output, s.size, s.keep, h, g, a, b, c, d, e, i, fun r' hr' => let ⟨r, hr, im⟩ := f r' hr'; let ⟨k, x, y⟩ := j r hr; ⟨k, im k x, y⟩⟩
theorem Sat.freeze (s : Sat w0 D G (p :: L) R w) : Sat w0 D G L (p :: R) w := by
  obtain ⟨h, g, ⟨h1, h2, rfl, d, hp, hl⟩, hin, gin, gh, hd, hg, hr⟩ := s.own
  obtain ⟨i1, i2⟩ := Hp.In.of_un d hin
  obtain ⟨g1, g2⟩ := Dj.of_un_r gh
  refine ⟨s.os, s.tape, s.output, s.size, s.keep, h2, un g h1, hl, i2, gin.un i1, Dj.un_l g2 d, fun b hb => hd b (ne_un_r hb), fun b hb => ?_, fun r hr' => ?_⟩
  · rcases un_ne hb with e | e
    · exact hg b e
    · exact .inr (hd b (ne_un_l e))
  · rcases List.mem_cons.1 hr' with rfl | hm
    · exact ⟨h1, hp, Le.un_r gin i1⟩
    · obtain ⟨k, a, b⟩ := hr r hm
      exact ⟨k, a, b.trans (Le.un_l _ _)⟩
theorem Sat.fact (s : Sat w0 D G (p :: L) R w) {φ : Prop} (f : ∀ h, p h → φ) : φ :=
  let ⟨_, _, ⟨h1, _, _, _, hp, _⟩, _⟩ := s.own
  f h1 hp
theorem Sat.rfact (s : Sat w0 D G L R w) (m : p ∈ R) {φ : Prop} (f : ∀ h, p h → φ) : φ :=
  let ⟨_, _, _, _, _, _, _, _, d⟩ := s.own
  let ⟨k, a, _⟩ := d p m
  f k a
theorem Sat.ex {α : Type} {p : α → Asn} (s : Sat w0 D G ((fun h => ∃ x, p x h) :: L) R w) : ∃ x, Sat w0 D G (p x :: L) R w := by
  obtain ⟨h, g, ⟨h1, h2, rfl, d, ⟨x, hp⟩, hl⟩, r⟩ := s.own
  exact ⟨x, s.os, s.tape, s.output, s.size, s.keep, _, g, ⟨h1, h2, rfl, d, hp, hl⟩, r⟩
theorem Sat.two (s : Sat w0 D G (p :: L) R w) {A : List Asn} (f : ∀ h, p h → stars A h) : Sat w0 D G (A ++ L) R w :=
  s.imp fun _ ⟨a, b, c, d, e, g⟩ => c ▸ stars_join d (f _ e) g

/-- A block that is owned stands in the world. -/
theorem Sat.at_ (s : Sat w0 D G (obj b o :: L) R w) : w.heap[b]? = some o := by
  obtain ⟨h, g, ⟨h1, h2, rfl, d, hp, hl⟩, hin, _⟩ := s.own
  exact (Hp.In.of_un d hin).1 b o (by rw [hp]; simp [single])
theorem Sat.blk_at (s : Sat w0 D G (blk b T cs :: L) R w) : w.heap[b]? = some (.cells ⟨cs⟩ T (0, 0)) := Sat.at_ (o := .cells ⟨cs⟩ T (0, 0)) s
/-- What is asserted of a part that may be read holds of a part of the world. -/
theorem Sat.ro_at (s : Sat w0 D G L R w) (m : p ∈ R) : ∃ k : Hp, p k ∧ k.In w := by
  obtain ⟨h, g, _, _, gin, _, _, _, d⟩ := s.own
  obtain ⟨k, a, i⟩ := d _ m
  exact ⟨k, a, i.inw gin⟩
theorem Sat.own_at (s : Sat w0 D G (p :: L) R w) : ∃ k : Hp, p k ∧ k.In w := by
  obtain ⟨h, g, ⟨h1, h2, rfl, d, hp, hl⟩, hin, _⟩ := s.own
  exact ⟨h1, hp, (Hp.In.of_un d hin).1⟩

/-- Only the tape has moved on. -/
theorem Sat.same (s : Sat w0 D G L R w) (ho : w'.os = w.os) (ht : w'.tape = w.tape) (hu : w'.output = w.output) (hh : w'.heap = w.heap) : Sat w0 D G L R w' := by
  obtain ⟨h, g, a, b, c, r⟩ := s.own
  exact ⟨ho.trans s.os, ht.trans s.tape, hu.trans s.output, hh ▸ s.size, hh ▸ s.keep, h, g, a, fun i o e => hh ▸ b i o e, fun i o e => hh ▸ c i o e, r⟩
theorem Sat.drewn (s : Sat w0 D G L R w) (n : Nat) : Sat w0 D G L R { w with drawn := n } := s.same rfl rfl rfl rfl

/-- A new block. -/
theorem Sat.new (s : Sat w0 D G L R w) (o : Obj) : Sat w0 D G (obj w.heap.size o :: L) R { w with heap := w.heap.push o } := by
  obtain ⟨h, g, a, b, c, gh, hd, hg, hr⟩ := s.own
  have hlt : ∀ i, i < w.heap.size → (w.heap.push o)[i]? = w.heap[i]? := fun i hi => by
    rw [Array.getElem?_push, if_neg (by omega)]
  have old : ∀ {k : Hp}, k.In w → k.In { w with heap := w.heap.push o } := fun {k} hk i x e => by
    have := hk i x e
    rw [show ({ w with heap := w.heap.push o } : World).heap[i]? = (w.heap.push o)[i]? from rfl, hlt i (Array.getElem?_eq_some_iff.1 this).1]
    exact this
  have dj : ∀ {k : Hp}, k.In w → Dj (single w.heap.size o) k := fun {k} hk i => by
    unfold single
    split
    · rename_i e
      right
      cases f : k i with
      | none => rfl
      | some x => exact absurd (hk.lt (b := i) (by rw [f]; simp)) (by omega)
    · exact .inl rfl
  refine ⟨s.os, s.tape, s.output, by simp only [Array.size_push]; exact Nat.le_succ_of_le s.size, fun i hi hD => ?_, un (single w.heap.size o) h, g, ⟨_, _, rfl, dj b, rfl, a⟩, ?_, old c, Dj.un_r (dj c).symm gh, ?_, hg, hr⟩
  · rw [show ({ w with heap := w.heap.push o } : World).heap[i]? = (w.heap.push o)[i]? from rfl, hlt i (Nat.lt_of_lt_of_le hi s.size)]
    exact s.keep i hi hD
  · refine Hp.In.un (fun i x e => ?_) (old b)
    unfold single at e
    split at e
    · rename_i f; cases e; subst f; simp
    · simp at e
  · intro i hi
    rcases un_ne hi with e | e
    · unfold single at e
      split at e
      · rename_i f; subst f; exact .inr s.size
      · exact absurd rfl e
    · exact hd i e

/-- An owned block is written. -/
theorem Sat.put (s : Sat w0 D G (obj b o :: L) R w) (o' : Obj) (ho : w'.os = w.os) (ht : w'.tape = w.tape) (hu : w'.output = w.output)
    (hs : w'.heap.size = w.heap.size) (hb : w'.heap[b]? = some o') (hne : ∀ i, i ≠ b → w'.heap[i]? = w.heap[i]?) : Sat w0 D G (obj b o' :: L) R w' := by
  obtain ⟨h, g, ⟨h1, h2, rfl, d, hp, hl⟩, hin, gin, gh, hd, hg, hr⟩ := s.own
  subst hp
  obtain ⟨i1, i2⟩ := Hp.In.of_un d hin
  obtain ⟨g1, g2⟩ := Dj.of_un_r gh
  have hb2 : h2 b = none := by rcases d b with e | e; · simp [single] at e
                               · exact e
  have hgb : g b = none := by rcases g1 b with e | e; · exact e
                              · simp [single] at e
  have keep : ∀ {k : Hp}, k.In w → k b = none → k.In w' := fun {k} hk hn i x e => by
    rw [hne i (fun f => by rw [f, hn] at e; simp at e)]
    exact hk i x e
  have dj : ∀ {k : Hp}, k b = none → Dj (single b o') k := fun {k} hk i => by
    unfold single; split
    · rename_i f; subst f; exact .inr hk
    · exact .inl rfl
  have hDb : D b ∨ w0.heap.size ≤ b := hd b (by simp [un, single])
  refine ⟨ho.trans s.os, ht.trans s.tape, hu.trans s.output, hs ▸ s.size, fun i hi hD => ?_, un (single b o') h2, g, ⟨_, _, rfl, dj hb2, rfl, hl⟩, ?_, keep gin hgb, Dj.un_r (dj hgb).symm g2, ?_, hg, hr⟩
  · rw [hne i (fun e => by subst e; rcases hDb with f | f; exact hD f; omega)]
    exact s.keep i hi hD
  · refine Hp.In.un (fun i x e => ?_) (keep i2 hb2)
    unfold single at e
    split at e
    · rename_i f; cases e; subst f; exact hb
    · simp at e
  · intro i hi
    rcases un_ne hi with e | e
    · unfold single at e
      split at e
      · rename_i f; subst f; exact hDb
      · exact absurd rfl e
    · exact hd i (ne_un_r e)

/-! ### A call -/
/-- What a function owes: own: what it is handed and hands back; ro: what it only reads. -/
def Spec (P : Program) (f : FuncId) (args : Array Value) (own ro : List Asn) (post : Value → List Asn → List Asn → Prop) : Prop :=
  ∀ (w : World) (h g : Hp), stars own h → h.In w → g.In w → Dj g h → (∀ r ∈ ro, ∃ k : Hp, r k ∧ Le k g) →
    Calls P f args w fun e w' => ∃ v L' R', e = .returned v ∧ post v L' R' ∧ Sat w (fun b => h b ≠ none) (fun b => g b ≠ none) L' R' w'

/-- What stands behind a call, joined to what the caller kept. -/
theorem Sat.after {B L' R' : List Asn} {h1 h2 g : Hp} (s : Sat w0 D G L R w) (d : Dj h1 h2) (hB : stars B h2) (i1 : h1.In w) (i2 : h2.In w) (gin : g.In w) (g1 : Dj g h1) (g2 : Dj g h2)
    (hd : ∀ b, un h1 h2 b ≠ none → D b ∨ w0.heap.size ≤ b) (hg : ∀ b, g b ≠ none → G b ∨ D b ∨ w0.heap.size ≤ b) (hr : ∀ r ∈ R, ∃ k : Hp, r k ∧ Le k g)
    (s' : Sat w (fun b => h1 b ≠ none) (fun b => g b ≠ none) L' R' w') : Sat w0 D G (L' ++ B) (R' ++ R) w' := by
  obtain ⟨h3, g3, a3, i3, gi3, gh3, d3, e3, r3⟩ := s'.own
  have fits : ∀ {k : Hp}, k.In w → Dj k h1 → k.In w' := fun {k} hk' hdj i x e => by
    have hlt := hk'.lt (b := i) (by rw [e]; simp)
    rw [s'.keep i hlt (fun hn => by rcases hdj i with f | f; · rw [f] at e; simp at e
                                    · exact hn f)]
    exact hk' i x e
  have apart : ∀ {k l : Hp}, (∀ b, l b ≠ none → h1 b ≠ none ∨ w.heap.size ≤ b) → k.In w → Dj k h1 → Dj l k := fun {k l} dl hk' hdj i => by
    cases e : k i with
    | none => exact .inr rfl
    | some x =>
      left
      have hlt := hk'.lt (b := i) (by rw [e]; simp)
      cases f : l i with
      | none => rfl
      | some y =>
        rcases dl i (by rw [f]; simp) with g | g
        · rcases hdj i with f' | f'
          · rw [f'] at e; simp at e
          · exact absurd f' g
        · omega
  have g3h2 : Dj g3 h2 := fun i => by
    cases e : h2 i with
    | none => exact .inr rfl
    | some x =>
      left
      have hlt := i2.lt (b := i) (by rw [e]; simp)
      cases f : g3 i with
      | none => rfl
      | some y =>
        rcases e3 i (by rw [f]; simp) with q | q | q
        · rcases g2 i with f' | f'
          · exact absurd f' q
          · rw [f'] at e; simp at e
        · rcases d i with f' | f'
          · exact absurd f' q
          · rw [f'] at e; simp at e
        · omega
  have gin' : g.In w' := fits gin g1
  refine ⟨s'.os.trans s.os, s'.tape.trans s.tape, s'.output.trans s.output, Nat.le_trans s.size s'.size, fun b hb hD => ?_,
    un h3 h2, un g3 g, stars_join (apart d3 i2 d.symm) a3 hB, i3.un (fits i2 d.symm), gi3.un gin', ?_, ?_, ?_, ?_⟩
  · rw [s'.keep b (Nat.lt_of_lt_of_le hb s.size) (fun hn => by rcases hd b (ne_un_l hn) with f | f; exact hD f; omega)]
    exact s.keep b hb hD
  · exact Dj.un_l (Dj.un_r gh3 g3h2) (Dj.un_r (apart d3 gin g1).symm g2)
  · intro b hb
    rcases un_ne hb with e | e
    · rcases d3 b e with f | f
      · exact hd b (ne_un_l f)
      · exact .inr (Nat.le_trans s.size f)
    · exact hd b (ne_un_r e)
  · intro b hb
    rcases un_ne hb with e | e
    · rcases e3 b e with f | f | f
      · exact hg b f
      · exact .inr (hd b (ne_un_l f))
      · exact .inr (.inr (Nat.le_trans s.size f))
    · exact hg b e
  · intro r hr'
    rcases List.mem_append.1 hr' with hm | hm
    · obtain ⟨k, x, y⟩ := r3 r hm
      exact ⟨k, x, y.trans (Le.un_l _ _)⟩
    · obtain ⟨k, x, y⟩ := hr r hm
      exact ⟨k, x, y.trans (Le.un_r gi3 gin')⟩

/-- The world behind a call, told from the world ahead of it: what was lent to be read came from what the caller itself may only read. -/
theorem Sat.behind {A B ro : List Asn} (s : Sat w0 D G (A ++ B) R w) (hro : ∀ r' ∈ ro, ∃ r ∈ R, ∀ h, r h → r' h) {Q : Ending → World → Prop}
    {f : FuncId} {P : Program} {args : Array Value} {post : Value → List Asn → List Asn → Prop} (sp : Spec P f args A ro post)
    (k : ∀ v L' R' w', post v L' R' → Sat w0 D G (L' ++ B) (R' ++ R) w' → Q (.returned v) w') : Calls P f args w Q := by
  obtain ⟨h, g, st, hin, gin, gh, hd, hg, hr⟩ := s.own
  obtain ⟨h1, h2, rfl, d, hA, hB⟩ := stars_append st
  obtain ⟨i1, i2⟩ := Hp.In.of_un d hin
  obtain ⟨g1, g2⟩ := Dj.of_un_r gh
  refine (sp w h1 g hA i1 gin g1 (fun r' hr' => ?_)).mono ?_
  · obtain ⟨r, hm, im⟩ := hro r' hr'
    obtain ⟨k, x, y⟩ := hr r hm
    exact ⟨k, im k x, y⟩
  · rintro e w' ⟨v, L', R', rfl, hp, s'⟩
    exact k v L' R' w' hp (s.after d hB i1 i2 gin g1 g2 hd hg hr s')

/-- The same where something that the caller owns is lent to be read; what the callee says of parts to be read is forgotten. -/
theorem Sat.behind_lent {A B ro : List Asn} (s : Sat w0 D G (A ++ B) R w) (hro : ∀ r' ∈ ro, ∃ r ∈ R ++ B, ∀ h, r h → r' h) {Q : Ending → World → Prop}
    {f : FuncId} {P : Program} {args : Array Value} {post : Value → List Asn → List Asn → Prop} (sp : Spec P f args A ro post)
    (k : ∀ v L' R' w', post v L' R' → Sat w0 D G (L' ++ B) R w' → Q (.returned v) w') : Calls P f args w Q := by
  obtain ⟨h, g, st, hin, gin, gh, hd, hg, hr⟩ := s.own
  obtain ⟨h1, h2, rfl, d, hA, hB⟩ := stars_append st
  obtain ⟨i1, i2⟩ := Hp.In.of_un d hin
  obtain ⟨g1, g2⟩ := Dj.of_un_r gh
  have lent : ∀ {B : List Asn} {h2 : Hp}, stars B h2 → ∀ r ∈ B, ∃ k : Hp, r k ∧ Le k h2 := by
    intro B
    induction B with
    | nil => intro _ _ r hr; simp at hr
    | cons q B ih =>
      rintro h2 ⟨k1, k2, rfl, dk, hq, hb⟩ r hr
      rcases List.mem_cons.1 hr with rfl | hm
      · exact ⟨k1, hq, Le.un_l _ _⟩
      · obtain ⟨k, x, y⟩ := ih hb r hm
        exact ⟨k, x, y.trans (by rw [un_comm dk]; exact Le.un_l _ _)⟩
  refine (sp w h1 (un g h2) hA i1 (gin.un i2) (Dj.un_l g1 d.symm) (fun r' hr' => ?_)).mono ?_
  · obtain ⟨r, hm, im⟩ := hro r' hr'
    rcases List.mem_append.1 hm with hm | hm
    · obtain ⟨k, x, y⟩ := hr r hm
      exact ⟨k, im k x, y.trans (Le.un_l _ _)⟩
    · obtain ⟨k, x, y⟩ := lent hB r hm
      exact ⟨k, im k x, y.trans (Le.un_r gin i2)⟩
  · rintro e w' ⟨v, L', R', rfl, hp, s'⟩
    refine k v L' R' w' hp ?_
    obtain ⟨h3, g3, a3, i3, gi3, gh3, d3, e3, r3⟩ := s'.own
    have fits : ∀ {k : Hp}, k.In w → Dj k h1 → k.In w' := fun {k} hk' hdj i x e => by
      have hlt := hk'.lt (b := i) (by rw [e]; simp)
      rw [s'.keep i hlt (fun hn => by rcases hdj i with f | f; · rw [f] at e; simp at e
                                      · exact hn f)]
      exact hk' i x e
    have apart : ∀ {k l : Hp}, (∀ b, l b ≠ none → h1 b ≠ none ∨ w.heap.size ≤ b) → k.In w → Dj k h1 → Dj l k := fun {k l} dl hk' hdj i => by
      cases e : k i with
      | none => exact .inr rfl
      | some x =>
        left
        have hlt := hk'.lt (b := i) (by rw [e]; simp)
        cases f : l i with
        | none => rfl
        | some y =>
          rcases dl i (by rw [f]; simp) with g | g
          · rcases hdj i with f' | f'
            · rw [f'] at e; simp at e
            · exact absurd f' g
          · omega
    refine ⟨s'.os.trans s.os, s'.tape.trans s.tape, s'.output.trans s.output, Nat.le_trans s.size s'.size, fun b hb hD => ?_,
      un h3 h2, g, stars_join (apart d3 i2 d.symm) a3 hB, i3.un (fits i2 d.symm), fits gin g1, ?_, ?_, hg, hr⟩
    · rw [s'.keep b (Nat.lt_of_lt_of_le hb s.size) (fun hn => by rcases hd b (ne_un_l hn) with f | f; exact hD f; omega)]
      exact s.keep b hb hD
    · exact Dj.un_r (apart d3 gin g1).symm g2
    · intro b hb
      rcases un_ne hb with e | e
      · rcases d3 b e with f | f
        · exact hd b (ne_un_l f)
        · exact .inr (Nat.le_trans s.size f)
      · exact hd b (ne_un_r e)
end
end Go.Sl
