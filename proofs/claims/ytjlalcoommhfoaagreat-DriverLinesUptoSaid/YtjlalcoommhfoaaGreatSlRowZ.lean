/- Readings of values that hold slices: the lists beside the cells. -/
import Derived.Test.YtjlalcoommhfoaaGreatSlRow
set_option linter.unusedVariables false
set_option linter.unusedSimpArgs false
namespace Go.Sl
open Go.ChangeShapes Go.WideShapes Go.ChangeAt Go.RowKit
/-- A bulk: what a list has, and what parts have, is less. -/
structure Bk (H : Type) where
  f : DataW H → Nat
  sl : ∀ l r, l.length < f (.slice l r)
  sm : ∀ l r, ∀ x ∈ l, f x ≤ f (.slice l r)
  ag : ∀ l, ∀ x ∈ l, f x ≤ f (.agg l)
  st : ∀ b, b.length < f (.lit (.string b))
section
variable {P : Program} {t e : TypeId} {α β γ ζ ξ : Type}
def RdZ (P : Program) (t : TypeId) (C : α → ζ → List Value) (wf : Nat → α → Prop) (G : α → ζ → World → Prop) : Prop :=
  ∀ (H : Type) (enc : TypeId × Value → H) (w : World) (sp : Nat → Bool) (hd : Bool) (n : Nat) (cs : List Value) (x : DataW H × List MemPlace) (bk : Bk H) (N : Nat), N ≤ 4611686018427387904 →
    DataW.trod enc P w 0 sp hd n t cs = some x → bk.f x.1 ≤ N → ∃ y z, cs = C y z ∧ wf N y ∧ G y z w
theorem RdZ.of {C : α → List Value} {wf : α → Prop} (h : Rd P t C wf) : RdZ P t (fun y (_ : Unit) => C y) (fun _ y => wf y) (fun _ _ _ => True) := fun H enc w sp hd n cs x bk N _ hx _ =>
  let ⟨y, a, b⟩ := h H enc w 0 sp hd n cs x hx; ⟨y, (), a, b, trivial⟩
theorem RdZ.str (h : P.underlying t = some .string) : RdZ P t (fun (x : ByteArray) (_ : Unit) => [.string x]) (fun N x => x.size ≤ N) (fun _ _ _ => True) := fun H enc w sp hd n cs x bk N _ hx hb => by
  obtain ⟨m, rfl, rfl, hm⟩ := DataW.trod_string h hx
  refine ⟨m, (), rfl, ?_, trivial⟩
  have := bk.st m.data.toList
  simp at this hb
  have e : m.size = m.data.size := rfl
  omega
/-- A slice of what holds none. -/
theorem RdZ.slice {sz : Nat} {C : α → List Value} {wf : α → Prop} (hu : P.underlying t = some (.slice e)) (hc : P.cellsOf e = sz) (hz : Nat.blt 0 sz = true) (hC : ∀ y, (C y).length = sz) (hr : Rd P e C wf) :
    RdZ P t (fun (_ : List α) (z : Value) => [z]) (fun N y => y.length ≤ N ∧ ∀ x ∈ y, wf x) (fun y z w => ∃ k : Hp, rows sz z (y.map C) k ∧ k.In w) := fun H enc w sp hd n cs x bk N hN hx hb => by
  have hx' := hx
  rcases DataW.trod_slice hu hx with ⟨rfl, _⟩ | ⟨a, len, cap, elems, rest, m, _, rfl, rfl, _, _, _, hlen, _⟩
  · obtain ⟨xs, h1, h2, h3, h4⟩ := open_list (C := C) hu hc (by simpa using hz) hC hr hx'
    obtain ⟨k, hk⟩ := h3 (by omega)
    exact ⟨xs, _, rfl, ⟨by omega, h2⟩, k, hk⟩
  · obtain ⟨xs, h1, h2, h3, h4⟩ := open_list (C := C) hu hc (by simpa using hz) hC hr hx'
    have := bk.sl (elems.map (·.1)) (rest.map (·.1))
    simp only [List.length_map] at this
    simp only at hb
    obtain ⟨k, hk⟩ := h3 (by omega)
    exact ⟨xs, _, rfl, ⟨by omega, h2⟩, k, hk⟩
def RdFZ (P : Program) (fs : List Field) (off tot : Nat) (C : α → ζ → List Value) (wf : Nat → α → Prop) (G : α → ζ → World → Prop) : Prop :=
  ∀ (H : Type) (enc : TypeId × Value → H) (w : World) (sp : Nat → Bool) (hd : Bool) (n : Nat) (cs : List Value) (bk : Bk H) (N : Nat), N ≤ 4611686018427387904 → cs.length = tot →
    (∀ f ∈ fs, ∃ z, DataW.trod enc P w 0 sp hd n f.type ((cs.drop f.offset).take (P.cellsOf f.type)) = some z ∧ bk.f z.1 ≤ N) → ∃ y z, cs.drop off = C y z ∧ wf N y ∧ G y z w
theorem RdFZ.nil {off tot : Nat} (h : off = tot) : RdFZ P [] off tot (fun (_ : Unit) (_ : Unit) => []) (fun _ _ => True) (fun _ _ _ => True) := fun H enc w sp hd n cs bk N _ hl _ => ⟨(), (), by simp [hl, h], trivial, trivial⟩
theorem RdFZ.cons {f : Field} {fs : List Field} {off sz tot : Nat} {C1 : α → ζ → List Value} {wf1 : Nat → α → Prop} {G1 : α → ζ → World → Prop} {C2 : β → ξ → List Value} {wf2 : Nat → β → Prop} {G2 : β → ξ → World → Prop}
    (ho : f.offset = off) (hc : P.cellsOf f.type = sz) (h1 : RdZ P f.type C1 wf1 G1) (h2 : RdFZ P fs (off + sz) tot C2 wf2 G2) :
    RdFZ P (f :: fs) off tot (fun (y : α × β) (z : ζ × ξ) => C1 y.1 z.1 ++ C2 y.2 z.2) (fun N y => wf1 N y.1 ∧ wf2 N y.2) (fun y z w => G1 y.1 z.1 w ∧ G2 y.2 z.2 w) := fun H enc w sp hd n cs bk N hN hl hf => by
  obtain ⟨z, hz, hb⟩ := hf f List.mem_cons_self
  obtain ⟨a, za, ha, wa, ga⟩ := h1 H enc w sp hd n _ z bk N hN hz hb
  obtain ⟨b, zb, hb', wb, gb⟩ := h2 H enc w sp hd n cs bk N hN hl fun g hg => hf g (List.mem_cons_of_mem _ hg)
  refine ⟨(a, b), (za, zb), ?_, ⟨wa, wb⟩, ga, gb⟩
  subst ho
  subst hc
  show cs.drop f.offset = C1 a za ++ C2 b zb
  rw [← ha, ← hb', ← List.drop_drop, List.take_append_drop]
theorem RdZ.struct {fs : List Field} {tot : Nat} {C : α → ζ → List Value} {wf : Nat → α → Prop} {G : α → ζ → World → Prop} {C' : γ → ζ → List Value} {wf' : Nat → γ → Prop} {G' : γ → ζ → World → Prop}
    (hu : P.underlying t = some (.struct ⟨fs⟩)) (hc : P.cellsOf t = tot) (h : RdFZ P fs 0 tot C wf G) (mk : α → γ) (he : ∀ y z, C y z = C' (mk y) z) (hw : ∀ N y, wf N y → wf' N (mk y)) (hg : ∀ y z w, G y z w → G' (mk y) z w) : RdZ P t C' wf' G' := fun H enc w sp hd n cs x bk N hN hx hb => by
  obtain ⟨xs, m, _, rfl, hl, hlen, hf⟩ := DataW.trod_struct hu hx
  obtain ⟨y, z, h1, h2, h3⟩ := h H enc w sp hd m cs bk N hN (hl.trans hc) fun f hm => by
    obtain ⟨i, hi, rfl⟩ := List.mem_iff_getElem.1 hm
    have h1 := hf i fs[i] (by simp [hi])
    have hlt : i < xs.length := by rw [hlen]; simpa using hi
    rw [List.getElem?_eq_getElem hlt] at h1
    refine ⟨_, h1, Nat.le_trans (bk.ag _ _ ?_) hb⟩
    exact List.mem_map_of_mem (List.getElem_mem hlt)
  refine ⟨mk y, z, ?_, hw N y h2, hg y z w h3⟩
  rw [← he, ← h1, List.drop_zero]
theorem okWide_array {n : Nat} {w : World} {r : Reach} {base : Nat} {v : Value} (ht : P.underlying t = some (.array n e)) (h : Value.okWide P w r base t v) : ∃ cs, v = .agg cs ∧ cs.size = P.cellsOf t := by
  unfold Value.okWide at h
  rw [ht] at h
  obtain ⟨cs, h1, h2, _⟩ := h
  exact ⟨cs, h1, h2⟩
/-- A list's parts, as they stand in memory. -/
theorem rows_cells {w : World} {sz len cap : Nat} {a' : Addr} {C : α → List Value} (xs : List α) (hz : 0 < sz) (hC : ∀ y, (C y).length = sz) (hxl : xs.length = len) (hle : len ≤ 4611686018427387904) (hl : len ≤ cap)
    (hxs : ∀ i y, xs[i]? = some y → w.cells? 0 (a'.add (i * sz)) sz = some (C y)) : ∃ k : Hp, rows sz (.slice (some a') len cap) (xs.map C) k ∧ k.In w := by
  cases xs with
  | nil =>
    simp at hxl; subst hxl
    exact ⟨fun _ => none, ⟨by simp, by simp, .inl ⟨rfl, _, _, rfl⟩⟩, fun b o e => by cases e⟩
  | cons x0 xs' =>
    obtain ⟨b, off, spot⟩ := a'
    have hcell : ∀ i y, (x0 :: xs')[i]? = some y → ∀ j, j < sz → w.cell? ((⟨b, off, spot⟩ : Addr).add (i * sz + j)) = (C y)[j]? := fun i y hy j hj => by
      obtain ⟨_, _, h3⟩ := World.cells?_some (hxs i y hy)
      rw [← h3 j hj]
      congr 1
      unfold Addr.add
      by_cases h1 : i * sz = 0 <;> by_cases h2 : j = 0 <;> simp [h1, h2, Nat.add_assoc]
    have h0 := hcell 0 x0 rfl 0 hz
    have hgt : 0 < (C x0).length := by rw [hC]; exact hz
    rw [List.getElem?_eq_getElem hgt] at h0
    simp only [Nat.zero_mul, Nat.add_zero] at h0
    have hadd : (⟨b, off, spot⟩ : Addr).add 0 = ⟨b, off, spot⟩ := by unfold Addr.add; simp
    rw [hadd] at h0
    unfold World.cell? at h0
    cases hh : w.heap[b]? with
    | none => simp [hh] at h0
    | some o =>
      cases o with
      | cells all T fz =>
        cases spot with
        | some s => simp [hh] at h0
        | none =>
          refine ⟨single b (.cells all T fz), ⟨?_, by simp at hxl ⊢; omega, .inr ⟨b, off, cap, T, all.toList, fz, by simp [← hxl], by simp, ?_, by simp at hxl ⊢; omega⟩⟩, ?_⟩
          · intro l hl'
            obtain ⟨y, _, rfl⟩ := List.mem_map.1 hl'
            exact hC y
          · refine pre_of_rows (sz := sz) _ off fun i l hi => ?_
            obtain ⟨y, hy, rfl⟩ : ∃ y, (x0 :: xs')[i]? = some y ∧ C y = l := by
              rw [List.getElem?_map] at hi
              cases hq : (x0 :: xs')[i]? with
              | none => rw [hq] at hi; simp at hi
              | some y => rw [hq] at hi; exact ⟨y, rfl, by simpa using hi⟩
            refine ⟨hC y, fun j hj => ?_⟩
            have := hcell i y hy j hj
            rw [addr_add] at this
            rw [← this]
            simp [World.cell?, hh, Nat.add_assoc]
          · intro i o' he
            simp only [single] at he
            split at he
            · rename_i hb'; subst hb'; rw [hh]; exact he
            · cases he
      | _ => simp [hh] at h0
theorem zip_maps {ps : List (α × ζ)} {D : α → Value → List Value} {f : ζ → Value} : List.zipWith D (ps.map Prod.fst) (ps.map fun p => f p.2) = ps.map fun p => D p.1 (f p.2) := by
  induction ps with
  | nil => rfl
  | cons p ps ih => simp [ih]
/-- A slice of what holds slices. -/
theorem open_listz {H : Type} {enc : TypeId × Value → H} {w : World} {sz n N : Nat} {sp : Nat → Bool} {hd : Bool} {a : Option Addr} {len cap : Nat} {x : DataW H × List MemPlace} {C : α → ζ → List Value} {wf : Nat → α → Prop} {G : α → ζ → World → Prop} (bk : Bk H) (hN : N ≤ 4611686018427387904)
    (hu : P.underlying t = some (.slice e)) (hc : P.cellsOf e = sz) (hz : 0 < sz) (hC : ∀ y z, (C y z).length = sz) (hr : RdZ P e C wf G) (h : DataW.trod enc P w 0 sp hd n t [.slice a len cap] = some x) (hb : bk.f x.1 ≤ N) :
    ∃ ps : List (α × ζ), ps.length = len ∧ len ≤ N ∧ (∀ p ∈ ps, wf N p.1 ∧ G p.1 p.2 w) ∧ ∃ k : Hp, rows sz (.slice a len cap) (ps.map fun p => C p.1 p.2) k ∧ k.In w := by
  rcases DataW.trod_slice hu h with ⟨h0, rfl⟩ | ⟨a', len', cap', elems, rest, m, _, h0, rfl, hb', hl, hm, hlen, hel, _, _⟩
  · simp only [List.cons.injEq, Value.slice.injEq, and_true] at h0
    obtain ⟨rfl, rfl, rfl⟩ := h0
    exact ⟨[], rfl, Nat.zero_le _, by simp, fun _ => none, ⟨by simp, by simp, .inl ⟨rfl, _, _, rfl⟩⟩, fun b o e => by cases e⟩
  · simp only [List.cons.injEq, Value.slice.injEq, and_true] at h0
    obtain ⟨rfl, rfl, rfl⟩ := h0
    rw [hc] at hel
    have hsl := bk.sl (elems.map (·.1)) (rest.map (·.1))
    rw [List.length_map, hlen] at hsl
    simp only at hb
    have key : ∀ i, i < len → ∃ p : α × ζ, w.cells? 0 (a'.add (i * sz)) sz = some (C p.1 p.2) ∧ wf N p.1 ∧ G p.1 p.2 w := fun i hi => by
      have h1 := hel i hi
      rw [List.getElem?_eq_getElem (by omega)] at h1
      obtain ⟨cs, h2, h3⟩ := Option.bind_eq_some_iff.1 h1
      have h4 := bk.sm (elems.map (·.1)) (rest.map (·.1)) elems[i].1 (List.mem_map_of_mem (List.getElem_mem _))
      obtain ⟨y, z, rfl, hw, hg⟩ := hr H enc w sp hd m cs _ bk N hN h3 (Nat.le_trans h4 hb)
      exact ⟨(y, z), h2, hw, hg⟩
    obtain ⟨ps, hpl, hps⟩ := list_of (p := fun i (p : α × ζ) => w.cells? 0 (a'.add (i * sz)) sz = some (C p.1 p.2) ∧ wf N p.1 ∧ G p.1 p.2 w) len key
    refine ⟨ps, hpl, by omega, fun p hp => ?_, rows_cells (C := fun p : α × ζ => C p.1 p.2) ps hz (fun p => hC p.1 p.2) hpl (by omega) hl fun i y hy => (hps i y hy).1⟩
    obtain ⟨i, hi, rfl⟩ := List.mem_iff_getElem.1 hp
    exact (hps i _ (List.getElem?_eq_getElem hi)).2
end
end Go.Sl
