/- From what a caller hands in to the lists of a walk, and back: the rows of laws that only read. -/
import Derived.Test.YtjlalcoommhfoaaGreatSlEq
import Derived.WalkKit
import Derived.ProofKit
import Derived.OpenShut
import Derived.JoinedCond
import Derived.ReadAgain
set_option linter.unusedVariables false
set_option linter.unusedSimpArgs false
namespace Go.Sl
open Go.ChangeShapes Go.WideShapes Go.ChangeAt Go.RowKit
section
variable {P : Program} {t e : TypeId} {α β γ : Type} {C : α → List Value} {C' : γ → List Value} {wf : α → Prop} {wf' : γ → Prop} {C1 : α → List Value} {C2 : β → List Value} {wf1 : α → Prop} {wf2 : β → Prop}

/-- What reads as a value of the type t is what C lays for some x. -/
def Rd (P : Program) (t : TypeId) (C : α → List Value) (wf : α → Prop) : Prop :=
  ∀ (H : Type) (enc : TypeId × Value → H) (w : World) (base : Nat) (sp : Nat → Bool) (hd : Bool) (n : Nat) (cs : List Value) (x : DataW H × List MemPlace),
    DataW.trod enc P w base sp hd n t cs = some x → ∃ y, cs = C y ∧ wf y
theorem Rd.int {k : IntKind} (h : P.underlying t = some (.int k)) : Rd P t (fun x : Int => [.int k x]) (fun x => (Lit.int k x).wf = true) := fun H enc w base sp hd n cs x hx => by
  obtain ⟨m, rfl, _, hw⟩ := DataW.trod_int h hx
  exact ⟨m, rfl, hw⟩
theorem wf_u {bits : Nat} {k : IntKind} {m : Int} (hs : k.signed = false) (hb : k.bits = bits) (h : (Lit.int k m).wf = true) : 0 ≤ m ∧ m < 2 ^ bits := by
  simp [Lit.wf, IntKind.min, IntKind.max, hs, hb] at h
  omega
theorem Rd.u64 (h : P.underlying t = some (.int .u64)) : Rd P t (fun x : UInt64 => [U x]) (fun _ => True) := fun H enc w base sp hd n cs x hx => by
  obtain ⟨m, rfl, _, hw⟩ := DataW.trod_int h hx
  have h2 := wf_u (bits := 64) rfl rfl hw
  refine ⟨UInt64.ofNat m.toNat, ?_, trivial⟩
  simp only [U, UInt64.toNat_ofNat']
  rw [Nat.mod_eq_of_lt (by omega)]
  simp; omega
theorem Rd.u32 (h : P.underlying t = some (.int .u32)) : Rd P t (fun x : UInt32 => [W4 x]) (fun _ => True) := fun H enc w base sp hd n cs x hx => by
  obtain ⟨m, rfl, _, hw⟩ := DataW.trod_int h hx
  have h2 := wf_u (bits := 32) rfl rfl hw
  refine ⟨UInt32.ofNat m.toNat, ?_, trivial⟩
  simp only [W4, UInt32.toNat_ofNat']
  rw [Nat.mod_eq_of_lt (by omega)]
  simp; omega
theorem Rd.u8 (h : P.underlying t = some (.int .u8)) : Rd P t (fun x : UInt8 => [B8 x]) (fun _ => True) := fun H enc w base sp hd n cs x hx => by
  obtain ⟨m, rfl, _, hw⟩ := DataW.trod_int h hx
  have h2 := wf_u (bits := 8) rfl rfl hw
  refine ⟨UInt8.ofNat m.toNat, ?_, trivial⟩
  simp only [B8, UInt8.toNat_ofNat']
  rw [Nat.mod_eq_of_lt (by omega)]
  simp; omega
theorem Rd.bool (h : P.underlying t = some .bool) : Rd P t (fun x : Bool => [.bool x]) (fun _ => True) := fun H enc w base sp hd n cs x hx => by
  obtain ⟨m, rfl, _⟩ := DataW.trod_bool h hx
  exact ⟨m, rfl, trivial⟩
theorem Rd.str (h : P.underlying t = some .string) : Rd P t (fun x : ByteArray => [.string x]) (fun x => x.size ≤ Go.maxLen) := fun H enc w base sp hd n cs x hx => by
  obtain ⟨m, rfl, _, hm⟩ := DataW.trod_string h hx
  exact ⟨m, rfl, hm⟩
def RdF (P : Program) (fs : List Field) (off tot : Nat) (C : α → List Value) (wf : α → Prop) : Prop :=
  ∀ (H : Type) (enc : TypeId × Value → H) (w : World) (base : Nat) (sp : Nat → Bool) (hd : Bool) (n : Nat) (cs : List Value), cs.length = tot →
    (∀ f ∈ fs, ∃ z, DataW.trod enc P w base sp hd n f.type ((cs.drop f.offset).take (P.cellsOf f.type)) = some z) → ∃ y, cs.drop off = C y ∧ wf y
theorem RdF.nil {off tot : Nat} (h : off = tot) : RdF P [] off tot (fun _ : Unit => []) (fun _ => True) := fun H enc w base sp hd n cs hl _ => ⟨(), by simp [hl, h], trivial⟩
theorem RdF.cons {f : Field} {fs : List Field} {off sz tot : Nat} (ho : f.offset = off) (hc : P.cellsOf f.type = sz) (h1 : Rd P f.type C1 wf1) (h2 : RdF P fs (off + sz) tot C2 wf2) :
    RdF P (f :: fs) off tot (fun y : α × β => C1 y.1 ++ C2 y.2) (fun y => wf1 y.1 ∧ wf2 y.2) := fun H enc w base sp hd n cs hl hf => by
  obtain ⟨z, hz⟩ := hf f List.mem_cons_self
  obtain ⟨a, ha, wa⟩ := h1 H enc w base sp hd n _ z hz
  obtain ⟨b, hb, wb⟩ := h2 H enc w base sp hd n cs hl fun g hg => hf g (List.mem_cons_of_mem _ hg)
  refine ⟨(a, b), ?_, wa, wb⟩
  rw [ho, hc] at ha
  show cs.drop off = C1 a ++ C2 b
  rw [← ha, ← hb, ← List.drop_drop, List.take_append_drop]
theorem Rd.struct {fs : List Field} {tot : Nat} (hu : P.underlying t = some (.struct ⟨fs⟩)) (hc : P.cellsOf t = tot) (h : RdF P fs 0 tot C wf) (mk : α → γ) (he : ∀ y, C y = C' (mk y)) (hw : ∀ y, wf y → wf' (mk y)) : Rd P t C' wf' :=
  fun H enc w base sp hd n cs x hx => by
    obtain ⟨xs, m, _, _, hl, hn, hf⟩ := DataW.trod_struct hu hx
    obtain ⟨y, hy, wy⟩ := h H enc w base sp hd m cs (by rw [hl, hc]) fun f hfm => by
      obtain ⟨i, hi, rfl⟩ := List.mem_iff_getElem.1 hfm
      have h1 := hf i fs[i] (by simp [hi])
      rw [h1]
      have hi' : i < xs.length := by rw [hn]; simpa using hi
      exact ⟨_, List.getElem?_eq_getElem hi'⟩
    exact ⟨mk y, by rw [← he]; simpa using hy, hw y wy⟩
def RdA (P : Program) (e : TypeId) (sz i k tot : Nat) (C : α → List Value) (wf : α → Prop) : Prop :=
  ∀ (H : Type) (enc : TypeId × Value → H) (w : World) (base : Nat) (sp : Nat → Bool) (hd : Bool) (n : Nat) (cs : List Value), cs.length = tot →
    (∀ j, i ≤ j → j < i + k → ∃ z, DataW.trod enc P w base sp hd n e ((cs.drop (j * sz)).take sz) = some z) → ∃ y, cs.drop (i * sz) = C y ∧ wf y
theorem RdA.nil {sz i tot : Nat} (h : i * sz = tot) : RdA P e sz i 0 tot (fun _ : Unit => []) (fun _ => True) := fun H enc w base sp hd n cs hl _ => ⟨(), by simp [hl, h], trivial⟩
theorem RdA.cons {sz i k tot : Nat} (h1 : Rd P e C1 wf1) (h2 : RdA P e sz (i + 1) k tot C2 wf2) : RdA P e sz i (k + 1) tot (fun y : α × β => C1 y.1 ++ C2 y.2) (fun y => wf1 y.1 ∧ wf2 y.2) := fun H enc w base sp hd n cs hl hf => by
  obtain ⟨z, hz⟩ := hf i (Nat.le_refl _) (by omega)
  obtain ⟨a, ha, wa⟩ := h1 H enc w base sp hd n _ z hz
  obtain ⟨b, hb, wb⟩ := h2 H enc w base sp hd n cs hl fun j h1 h2 => hf j (by omega) (by omega)
  refine ⟨(a, b), ?_, wa, wb⟩
  show cs.drop (i * sz) = C1 a ++ C2 b
  rw [← ha, ← hb, Nat.succ_mul, ← List.drop_drop, List.take_append_drop]
theorem Rd.array {len sz tot : Nat} (hu : P.underlying t = some (.array len e)) (hc : P.cellsOf t = tot) (hs : P.cellsOf e = sz) (h : RdA P e sz 0 len tot C wf) (mk : α → γ) (he : ∀ y, C y = C' (mk y)) (hw : ∀ y, wf y → wf' (mk y)) : Rd P t C' wf' :=
  fun H enc w base sp hd n cs x hx => by
    obtain ⟨xs, m, _, _, hl, hn, hf⟩ := DataW.trod_array hu hx
    obtain ⟨y, hy, wy⟩ := h H enc w base sp hd m cs (by rw [hl, hc]) fun j _ hj => by
      have h1 := hf j (by omega)
      rw [hs] at h1
      rw [h1]
      exact ⟨_, List.getElem?_eq_getElem (by omega)⟩
    exact ⟨mk y, by rw [← he]; simpa using hy, hw y wy⟩

/-! ### Lists -/
theorem pre_of_rows {sz : Nat} {all : List Value} : ∀ (xs : List (List Value)) (off : Nat), (∀ i x, xs[i]? = some x → x.length = sz ∧ ∀ j, j < sz → all[off + i * sz + j]? = x[j]?) → xs.flatten <+: all.drop off := by
  intro xs
  induction xs with
  | nil => intro off _; simp
  | cons x xs ih =>
    intro off h
    obtain ⟨hl, hx⟩ := h 0 x rfl
    have h2 := ih (off + sz) fun i y hy => by
      obtain ⟨a, b⟩ := h (i + 1) y (by simpa using hy)
      refine ⟨a, fun j hj => ?_⟩
      rw [← b j hj, Nat.succ_mul]
      congr 1; omega
    have h1 : (all.drop off).take sz = x := by
      apply List.ext_getElem?
      intro j
      by_cases hj : j < sz
      · rw [List.getElem?_take_of_lt hj, List.getElem?_drop, ← hx j hj]; simp
      · rw [List.getElem?_eq_none (by simp; omega), List.getElem?_eq_none (by omega)]
    rw [List.flatten_cons, ← List.take_append_drop sz (all.drop off), h1, List.drop_drop]
    exact (List.prefix_append_right_inj x).2 h2
theorem list_of {p : Nat → α → Prop} : ∀ (n : Nat), (∀ i, i < n → ∃ y, p i y) → ∃ xs : List α, xs.length = n ∧ ∀ i y, xs[i]? = some y → p i y := by
  intro n
  induction n with
  | zero => exact fun _ => ⟨[], rfl, by simp⟩
  | succ k ih =>
    intro key
    obtain ⟨xs, h1, h2⟩ := ih fun i hi => key i (by omega)
    obtain ⟨y, h4⟩ := key k (by omega)
    refine ⟨xs ++ [y], by simp [h1], fun i z hz => ?_⟩
    by_cases hi : i < xs.length
    · rw [List.getElem?_append_left hi] at hz; exact h2 i z hz
    · rw [List.getElem?_append_right (by omega)] at hz
      have : i = k := by
        have := (List.getElem?_eq_some_iff.1 hz).1
        simp at this; omega
      subst this
      simp [h1] at hz
      subst hz
      exact h4
/-- A slice that is read, as a list. -/
theorem open_list {H : Type} {enc : TypeId × Value → H} {w : World} {sz n : Nat} {sp : Nat → Bool} {hd : Bool} {a : Option Addr} {len cap : Nat} {x : DataW H × List MemPlace} (hu : P.underlying t = some (.slice e)) (hc : P.cellsOf e = sz)
    (hz : 0 < sz) (hC : ∀ y, (C y).length = sz) (hr : Rd P e C wf) (h : DataW.trod enc P w 0 sp hd n t [.slice a len cap] = some x) :
    ∃ xs : List α, xs.length = len ∧ (∀ y ∈ xs, wf y) ∧ (len ≤ 4611686018427387904 → ∃ k : Hp, rows sz (.slice a len cap) (xs.map C) k ∧ k.In w) ∧ (x.1 = .nil ∧ len = 0 ∨ ∃ l r, x.1 = .slice l r ∧ l.length = len) := by
  rcases DataW.trod_slice hu h with ⟨h0, rfl⟩ | ⟨a', len', cap', elems, rest, m, _, h0, rfl, hb, hl, hm, hlen, hel, _, _⟩
  · simp only [List.cons.injEq, Value.slice.injEq, and_true] at h0
    obtain ⟨rfl, rfl, rfl⟩ := h0
    exact ⟨[], rfl, by simp, fun _ => ⟨fun _ => none, ⟨by simp, by simp, .inl ⟨rfl, _, _, rfl⟩⟩, fun b o e => by cases e⟩, .inl ⟨rfl, rfl⟩⟩
  · simp only [List.cons.injEq, Value.slice.injEq, and_true] at h0
    obtain ⟨rfl, rfl, rfl⟩ := h0
    rw [hc] at hel
    have key : ∀ i, i < len → ∃ cs y, w.cells? 0 (a'.add (i * sz)) sz = some cs ∧ cs = C y ∧ wf y := fun i hi => by
      have h1 := hel i hi
      rw [List.getElem?_eq_getElem (by omega)] at h1
      obtain ⟨cs, h2, h3⟩ := Option.bind_eq_some_iff.1 h1
      obtain ⟨y, hy, hw⟩ := hr H enc w 0 sp hd m cs _ h3
      exact ⟨cs, y, h2, hy, hw⟩
    have hex : ∃ xs : List α, xs.length = len ∧ ∀ i y, xs[i]? = some y → w.cells? 0 (a'.add (i * sz)) sz = some (C y) ∧ wf y :=
      list_of (p := fun i y => w.cells? 0 (a'.add (i * sz)) sz = some (C y) ∧ wf y) len fun i hi => by
        obtain ⟨cs, y, h3, rfl, h4⟩ := key i hi
        exact ⟨y, h3, h4⟩
    obtain ⟨xs, hxl, hxs⟩ := hex
    refine ⟨xs, hxl, fun y hy => ?_, fun hle => ?_, .inr ⟨_, _, rfl, by simpa using hlen⟩⟩
    · obtain ⟨i, hi, rfl⟩ := List.mem_iff_getElem.1 hy
      exact (hxs i _ (List.getElem?_eq_getElem hi)).2
    · cases xs with
      | nil =>
        simp at hxl; subst hxl
        exact ⟨fun _ => none, ⟨by simp, by simp, .inl ⟨rfl, _, _, rfl⟩⟩, fun b o e => by cases e⟩
      | cons x0 xs' =>
        obtain ⟨b, off, spot⟩ := a'
        have hcell : ∀ i y, (x0 :: xs')[i]? = some y → ∀ j, j < sz → w.cell? ((⟨b, off, spot⟩ : Addr).add (i * sz + j)) = (C y)[j]? := fun i y hy j hj => by
          obtain ⟨_, _, h3⟩ := World.cells?_some (hxs i y hy).1
          rw [← h3 j hj]
          congr 1
          unfold Addr.add
          by_cases h1 : i * sz = 0 <;> by_cases h2 : j = 0 <;> simp [h1, h2, Nat.add_assoc]
        have h0 := hcell 0 x0 rfl 0 hz
        have hgt : 0 < (C x0).length := by rw [hC]; exact hz
        rw [List.getElem?_eq_getElem hgt] at h0
        simp only [Nat.zero_mul, Nat.add_zero] at h0
        have hadd : (⟨b, off, spot⟩ : Addr).add 0 = ⟨b, off, spot⟩ := by unfold Addr.add; simp
        rw [hadd] at h0
        unfold World.cell? at h0
        cases hh : w.heap[b]? with
        | none => simp [hh] at h0
        | some o =>
          cases o with
          | cells all T fz =>
            cases spot with
            | some s => simp [hh] at h0
            | none =>
              refine ⟨single b (.cells all T fz), ⟨?_, by simp at hxl ⊢; omega, .inr ⟨b, off, cap, T, all.toList, fz, by simp [← hxl], by simp, ?_, by simp at hxl ⊢; omega⟩⟩, ?_⟩
              · intro l hl'
                obtain ⟨y, _, rfl⟩ := List.mem_map.1 hl'
                exact hC y
              · refine pre_of_rows (sz := sz) _ off fun i l hi => ?_
                obtain ⟨y, hy, rfl⟩ : ∃ y, (x0 :: xs')[i]? = some y ∧ C y = l := by
                  rw [List.getElem?_map] at hi
                  cases hq : (x0 :: xs')[i]? with
                  | none => rw [hq] at hi; simp at hi
                  | some y => rw [hq] at hi; exact ⟨y, rfl, by simpa using hi⟩
                refine ⟨hC y, fun j hj => ?_⟩
                have := hcell i y hy j hj
                rw [addr_add] at this
                rw [← this]
                simp [World.cell?, hh, Nat.add_assoc]
              · intro i o' he
                simp only [single] at he
                split at he
                · rename_i hb'; subst hb'; rw [hh]; exact he
                · cases he
          | _ => simp [hh] at h0
/-! ### The row -/
/-- What stood in the world stands. -/
structure Keeps (w w' : World) : Prop where
  os : w'.os = w.os
  output : w'.output = w.output
  heap : ∀ b, b < w.heap.size → w'.heap[b]? = w.heap[b]?
theorem Keeps.same {w w' : World} (k : Keeps w w') {p : MemPlace} (h : p.block < w.heap.size) : w.sameAt w' p := by
  cases p with
  | cell b off => simp only [World.sameAt, World.cell?]; rw [k.heap b h]
  | map b => exact k.heap b h
theorem trodAll_keeps {H : Type} {enc : TypeId × Value → H} {w w' : World} {base : Nat} {sp : Nat → Bool} {hd : Bool} (k : Keeps w w') : ∀ {ts : List TypeId} {vs : List Value} {ds : List (DataW H)} {ps : List MemPlace},
    (∀ p ∈ ps, p.block < w.heap.size) → DataW.TrodAll enc P w base sp hd ts vs ds ps → DataW.TrodAll enc P w' base sp hd ts vs ds ps
  | [], [], [], _, _, h => h
  | _ :: _, _ :: _, _ :: _, _, hs, ⟨p, q, ⟨n, h1⟩, h2, e⟩ =>
    ⟨p, q, ⟨n, DataW.trod_carry n _ _ _ h1 fun x hx => k.same (hs x (by rw [e]; exact List.mem_append_left _ hx))⟩, trodAll_keeps k (fun x hx => hs x (by rw [e]; exact List.mem_append_right _ hx)) h2, e⟩
theorem Keeps.but {w w' : World} (k : Keeps w w') (may : MemPlace → Prop) : w.keptBut w' may := by
  refine ⟨k.os, k.output, fun i hi => ?_⟩
  rw [k.heap i hi]
  split <;> first | rfl | skip
  · rename_i e1 e2
    rw [e1] at e2; cases e2
    exact ⟨rfl, rfl, rfl, fun _ _ => rfl⟩
  · rename_i e1 e2
    rw [e1] at e2; cases e2
    exact .inr ⟨rfl, rfl⟩
/-- A law that reads its arguments and answers 'true'. -/
theorem law_post {H : Type} {enc : TypeId × Value → H} {W : World} {args : Array Value} {ds : List (DataW H)} {before : List MemPlace} {f : Func} {spec : ChangeSpec} {k tb : Nat} (hv : spec.vars = [])
    (hW : DataW.Whole enc P f.params.toList spec.vars false W args.toList ds [] before) (kids : Kids P (· < P.types.size)) (full : ∀ t e, t < P.types.size → P.underlying t = some (.slice e) → 0 < P.cellsOf e)
    (hT : ∀ t ∈ f.params.toList, t < P.types.size) (h1 : (spec.fn H (ds ++ [])).results = [.lit (.bool true)]) (h2 : (spec.fn H (ds ++ [])).args = ds) (h3 : (spec.fn H (ds ++ [])).vars = []) (hr : f.resultTypes = #[tb]) (hb : P.underlying tb = some .bool)
    (hc : Calls P k args W fun e W' => e = .returned (.bool true) ∧ Keeps W W') : Calls P k args W fun e W' => ∃ v, e = .returned v ∧ spec.post enc P f false true false false W args v W' := by
  refine hc.mono fun e W' ⟨he, hk⟩ => ⟨_, he, ds, [], before, [], before, [], hW, ?_, ?_, ?_, hk.but _, fun h => by cases h⟩
  · rw [h1, hr]
    exact ⟨[], [], ⟨1, by simp [DataW.trod, Value.cells, hb]⟩, rfl, rfl⟩
  · obtain ⟨p, q, hA, hV, rfl, _⟩ := hW
    rw [hv] at hV
    obtain rfl : q = [] := hV
    rw [h2, List.append_nil]
    have hlt := DataW.TrodAll.lt hA
    refine trodAll_keeps hk hlt (DataW.TrodAll.respare kids full hT hA fun x hx => ?_)
    simpa using hlt x hx
  · rw [h3, hv]; rfl
theorem un_none_r (h : Hp) : un h (fun _ => none) = h := by funext b; simp [un]
/-- A contract of what is only read, at the top. -/
theorem SpecF.top {α : Type} {f : FuncId} {args : List Value} {ro : List Asn} {φ : α → Prop} {res : α → Value} {own' ro' : α → List Asn → List Asn} {W : World} (s : SpecF P f args [] ro φ res own' ro')
    (hro : ∀ r ∈ ro, ∃ k : Hp, r k ∧ k.In W) : Calls P f ⟨args⟩ W fun e W' => (∃ x, φ x ∧ e = .returned (res x)) ∧ Keeps W W' := by
  -- the whole heap may be read
  refine (s W (fun _ => none) (fun b => W.heap[b]?) trivial (fun b o e => by cases e) (fun b o e => e) (fun b => .inr rfl) fun r hr => ?_).mono fun e W' ⟨v, L', R', he, ⟨x, hx, hv, _, _⟩, hs⟩ => ?_
  · obtain ⟨k, h1, h2⟩ := hro r hr
    exact ⟨k, h1, h2⟩
  · exact ⟨⟨x, hx, by rw [he, hv]⟩, hs.os, hs.output, fun b hb => hs.keep b hb (fun h => h rfl)⟩
end
end Go.Sl
