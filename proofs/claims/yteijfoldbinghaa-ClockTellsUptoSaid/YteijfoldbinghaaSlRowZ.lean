/- Readings of values that hold slices: the lists beside the cells. -/
import Derived.Test.YteijfoldbinghaaSlRow
set_option linter.unusedVariables false
set_option linter.unusedSimpArgs false
namespace Go.Sl
open Go.ChangeShapes Go.WideShapes Go.ChangeAt Go.RowKit
/-- A bulk: what a list has, and what parts have, is less. -/
structure Bk (H : Type) where
  f : DataW H → Nat
  sl : ∀ l r, l.length < f (.slice l r)
  sm : ∀ l r, ∀ x ∈ l, f x ≤ f (.slice l r)
  ag : ∀ l, ∀ x ∈ l, f x ≤ f (.agg l)
  st : ∀ b, b.length < f (.lit (.string b))
section
variable {P : Program} {t e : TypeId} {α β γ ζ ξ : Type}
def RdZ (P : Program) (t : TypeId) (C : α → ζ → List Value) (wf : Nat → α → Prop) (G : α → ζ → World → Prop) : Prop :=
  ∀ (H : Type) (enc : TypeId × Value → H) (w : World) (sp : Nat → Bool) (hd : Bool) (n : Nat) (cs : List Value) (x : DataW H × List MemPlace) (bk : Bk H) (N : Nat), N ≤ 4611686018427387904 →
    DataW.trod enc P w 0 sp hd n t cs = some x → bk.f x.1 ≤ N → ∃ y z, cs = C y z ∧ wf N y ∧ G y z w
theorem RdZ.of {C : α → List Value} {wf : α → Prop} (h : Rd P t C wf) : RdZ P t (fun y (_ : Unit) => C y) (fun _ y => wf y) (fun _ _ _ => True) := fun H enc w sp hd n cs x bk N _ hx _ =>
  let ⟨y, a, b⟩ := h H enc w 0 sp hd n cs x hx; ⟨y, (), a, b, trivial⟩
theorem RdZ.str (h : P.underlying t = some .string) : RdZ P t (fun (x : ByteArray) (_ : Unit) => [.string x]) (fun N x => x.size ≤ N) (fun _ _ _ => True) := fun H enc w sp hd n cs x bk N _ hx hb => by
  obtain ⟨m, rfl, rfl, hm⟩ := DataW.trod_string h hx
  refine ⟨m, (), rfl, ?_, trivial⟩
  have := bk.st m.data.toList
  simp at this hb
  have e : m.size = m.data.size := rfl
  omega
/-- A slice of what holds none. -/
theorem RdZ.slice {sz : Nat} {C : α → List Value} {wf : α → Prop} (hu : P.underlying t = some (.slice e)) (hc : P.cellsOf e = sz) (hz : Nat.blt 0 sz = true) (hC : ∀ y, (C y).length = sz) (hr : Rd P e C wf) :
    RdZ P t (fun (_ : List α) (z : Value) => [z]) (fun N y => y.length ≤ N ∧ ∀ x ∈ y, wf x) (fun y z w => ∃ k : Hp, rows sz z (y.map C) k ∧ k.In w) := fun H enc w sp hd n cs x bk N hN hx hb => by
  have hx' := hx
  rcases DataW.trod_slice hu hx with ⟨rfl, _⟩ | ⟨a, len, cap, elems, rest, m, _, rfl, rfl, _, _, _, hlen, _⟩
  · obtain ⟨xs, h1, h2, h3, h4⟩ := open_list (C := C) hu hc (by simpa using hz) hC hr hx'
    obtain ⟨k, hk⟩ := h3 (by omega)
    exact ⟨xs, _, rfl, ⟨by omega, h2⟩, k, hk⟩
  · obtain ⟨xs, h1, h2, h3, h4⟩ := open_list (C := C) hu hc (by simpa using hz) hC hr hx'
    have := bk.sl (elems.map (·.1)) (rest.map (·.1))
    simp only [List.length_map] at this
    simp only at hb
    obtain ⟨k, hk⟩ := h3 (by omega)
    exact ⟨xs, _, rfl, ⟨by omega, h2⟩, k, hk⟩
def RdFZ (P : Program) (fs : List Field) (off tot : Nat) (C : α → ζ → List Value) (wf : Nat → α → Prop) (G : α → ζ → World → Prop) : Prop :=
  ∀ (H : Type) (enc : TypeId × Value → H) (w : World) (sp : Nat → Bool) (hd : Bool) (n : Nat) (cs : List Value) (bk : Bk H) (N : Nat), N ≤ 4611686018427387904 → cs.length = tot →
    (∀ f ∈ fs, ∃ z, DataW.trod enc P w 0 sp hd n f.type ((cs.drop f.offset).take (P.cellsOf f.type)) = some z ∧ bk.f z.1 ≤ N) → ∃ y z, cs.drop off = C y z ∧ wf N y ∧ G y z w
theorem RdFZ.nil {off tot : Nat} (h : off = tot) : RdFZ P [] off tot (fun (_ : Unit) (_ : Unit) => []) (fun _ _ => True) (fun _ _ _ => True) := fun H enc w sp hd n cs bk N _ hl _ => ⟨(), (), by simp [hl, h], trivial, trivial⟩
theorem RdFZ.cons {f : Field} {fs : List Field} {off sz tot : Nat} {C1 : α → ζ → List Value} {wf1 : Nat → α → Prop} {G1 : α → ζ → World → Prop} {C2 : β → ξ → List Value} {wf2 : Nat → β → Prop} {G2 : β → ξ → World → Prop}
    (ho : f.offset = off) (hc : P.cellsOf f.type = sz) (h1 : RdZ P f.type C1 wf1 G1) (h2 : RdFZ P fs (off + sz) tot C2 wf2 G2) :
    RdFZ P (f :: fs) off tot (fun (y : α × β) (z : ζ × ξ) => C1 y.1 z.1 ++ C2 y.2 z.2) (fun N y => wf1 N y.1 ∧ wf2 N y.2) (fun y z w => G1 y.1 z.1 w ∧ G2 y.2 z.2 w) := fun H enc w sp hd n cs bk N hN hl hf => by
  obtain ⟨z, hz, hb⟩ := hf f List.mem_cons_self
  obtain ⟨a, za, ha, wa, ga⟩ := h1 H enc w sp hd n _ z bk N hN hz hb
  obtain ⟨b, zb, hb', wb, gb⟩ := h2 H enc w sp hd n cs bk N hN hl fun g hg => hf g (List.mem_cons_of_mem _ hg)
  refine ⟨(a, b), (za, zb), ?_, ⟨wa, wb⟩, ga, gb⟩
  subst ho
  subst hc
  show cs.drop f.offset = C1 a za ++ C2 b zb
  rw [← ha, ← hb', ← List.drop_drop, List.take_append_drop]
theorem RdZ.struct {fs : List Field} {tot : Nat} {C : α → ζ → List Value} {wf : Nat → α → Prop} {G : α → ζ → World → Prop} {C' : γ → ζ → List Value} {wf' : Nat → γ → Prop} {G' : γ → ζ → World → Prop}
    (hu : P.underlying t = some (.struct ⟨fs⟩)) (hc : P.cellsOf t = tot) (h : RdFZ P fs 0 tot C wf G) (mk : α → γ) (he : ∀ y z, C y z = C' (mk y) z) (hw : ∀ N y, wf N y → wf' N (mk y)) (hg : ∀ y z w, G y z w → G' (mk y) z w) : RdZ P t C' wf' G' := fun H enc w sp hd n cs x bk N hN hx hb => by
  obtain ⟨xs, m, _, rfl, hl, hlen, hf⟩ := DataW.trod_struct hu hx
  obtain ⟨y, z, h1, h2, h3⟩ := h H enc w sp hd m cs bk N hN (hl.trans hc) fun f hm => by
    obtain ⟨i, hi, rfl⟩ := List.mem_iff_getElem.1 hm
    have h1 := hf i fs[i] (by simp [hi])
    have hlt : i < xs.length := by rw [hlen]; simpa using hi
    rw [List.getElem?_eq_getElem hlt] at h1
    refine ⟨_, h1, Nat.le_trans (bk.ag _ _ ?_) hb⟩
    exact List.mem_map_of_mem (List.getElem_mem hlt)
  refine ⟨mk y, z, ?_, hw N y h2, hg y z w h3⟩
  rw [← he, ← h1, List.drop_zero]
theorem okWide_array {n : Nat} {w : World} {r : Reach} {base : Nat} {v : Value} (ht : P.underlying t = some (.array n e)) (h : Value.okWide P w r base t v) : ∃ cs, v = .agg cs ∧ cs.size = P.cellsOf t := by
  unfold Value.okWide at h
  rw [ht] at h
  obtain ⟨cs, h1, h2, _⟩ := h
  exact ⟨cs, h1, h2⟩
end
end Go.Sl
