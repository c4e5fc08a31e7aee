/- Lists of what holds a slice: what each part's slice holds is told beside the list. -/
import Derived.Test.YtjlalcoommhfoaaGreatSlConv
set_option linter.unusedVariables false
set_option linter.unusedSimpArgs false
namespace Go.Sl
/-- The length of a slice whose shape is known. -/
theorem P.lnh {C : Cx} {E E' : List (Nat × Value)} {d : Nat} {v : Value} {ty : TypeId} {pos : String} {aft : Array Edge} {gd : Option (Nat × Bool)} {o : Operand} {st e : TypeId} {n : Nat} (h : Ev E o v E') (hs : ∃ a c, v = .slice a n c) (hu : ∀ w, (underlying st).run C.P w = .ok (.slice e) w) :
    OpP C E ⟨some d, .call ⟨.builtin .len, #[o], #[st]⟩, ty, pos, aft, gd⟩ (N n) E' := fun a w he => by
  obtain ⟨h1, h2⟩ := h _ a he
  obtain ⟨a', c, rfl⟩ := hs
  refine ⟨?_, h2⟩
  have := run_len (ty := ty) (a := a') (n := n) (c := c) (w := w) (ats := #[st]) hu rfl
  simp [execOp, resolve, invoke, builtin, h1, this]
def gz {α : Type} (G : α → Value → Asn) (xs : List α) (zs : List Value) : Asn := fun h =>
  zs.length = xs.length ∧ ∀ (i : Nat) (x : α) (z : Value), xs[i]? = some x → zs[i]? = some z → ∃ k : Hp, G x z k ∧ Le k h
section
variable {α β : Type} {G : α → Value → Asn} {D : α → Value → List Value} {xs ys : List α} {zs ws : List Value}
theorem zip_len (h : zs.length = xs.length) : (List.zipWith D xs zs).length = xs.length := by simp [h]
theorem zip_app (h : zs.length = xs.length) : List.zipWith D (xs ++ ys) (zs ++ ws) = List.zipWith D xs zs ++ List.zipWith D ys ws := List.zipWith_append h.symm
theorem zip_get {i : Nat} {x : α} {z : Value} (hx : xs[i]? = some x) (hz : zs[i]? = some z) : (List.zipWith D xs zs)[i]? = some (D x z) := by
  rw [List.getElem?_zipWith, hx, hz]
theorem gz_nil {h : Hp} : gz G [] [] h := ⟨rfl, fun i x z e _ => by simp at e⟩
theorem Le.un_r' {h k g : Hp} (d : Dj h k) : Le k (un h k) := fun i o e => by
  rw [un_comm d]; simp [un, e]
end
section
variable {C : Cx} {E E' : List (Nat × Value)} {L L' R R' : List Asn} {K : Act → World → Prop} {α : Type} {G : α → Value → Asn} {D : α → Value → List Value} {xs ys : List α} {zs ws : List Value} {q : Asn}
theorem Post.gzn (h : Post C E L (gz G [] [] :: R) K) : Post C E L R K := fun a w e s => h a w e (by
  obtain ⟨hh, g, st, i1, i2, d, d1, d2, r⟩ := s.own
  refine ⟨s.os, s.tape, s.output, s.size, s.keep, hh, g, st, i1, i2, d, d1, d2, fun p hp => ?_⟩
  rcases List.mem_cons.1 hp with rfl | hm
  · exact ⟨g, gz_nil, Le.refl _⟩
  · exact r p hm)
theorem Post.gzl (m : gz G xs zs ∈ R) (k : zs.length = xs.length → Post C E L R K) : Post C E L R K := .rfact m (fun h r => r.1) k
/-- One more piece of knowledge that joins two. -/
theorem Sat.rjoin {w0 w : World} {DD GG : Nat → Prop} {p p2 r : Asn} (s : Sat w0 DD GG L R w) (m : p ∈ R) (m2 : p2 ∈ R) (f : ∀ k1 k2 g, p k1 → p2 k2 → Le k1 g → Le k2 g → r g) : Sat w0 DD GG L (r :: R) w := by
  obtain ⟨hh, g, st, i1, i2, d, d1, d2, rr⟩ := s.own
  refine ⟨s.os, s.tape, s.output, s.size, s.keep, hh, g, st, i1, i2, d, d1, d2, fun q hq => ?_⟩
  rcases List.mem_cons.1 hq with rfl | hm
  · obtain ⟨k1, a1, b1⟩ := rr p m
    obtain ⟨k2, a2, b2⟩ := rr p2 m2
    exact ⟨g, f k1 k2 g a1 a2 b1 b2, Le.refl _⟩
  · exact rr q hm
theorem Sat.rdrop2 {w0 w : World} {DD GG : Nat → Prop} {p p2 : Asn} (s : Sat w0 DD GG L (p :: p2 :: R) w) : Sat w0 DD GG L (p :: R) w := s.ro fun r hr => ⟨r, by
  rcases List.mem_cons.1 hr with rfl | h
  · exact List.mem_cons_self
  · exact List.mem_cons_of_mem _ (List.mem_cons_of_mem _ h), fun _ x => x⟩
theorem gz_cons {x : α} {z : Value} {k1 k2 g : Hp} (h1 : G x z k1) (h2 : gz G xs zs k2) (l1 : Le k1 g) (l2 : Le k2 g) : gz G (x :: xs) (z :: zs) g := by
  refine ⟨by simp [h2.1], fun i y u hy hu => ?_⟩
  cases i with
  | zero => simp at hy hu; subst hy; subst hu; exact ⟨k1, h1, l1⟩
  | succ i =>
    obtain ⟨k, a, b⟩ := h2.2 i y u (by simpa using hy) (by simpa using hu)
    exact ⟨k, a, b.trans l2⟩
theorem gz_append {k1 k2 g : Hp} (h1 : gz G xs zs k1) (h2 : gz G ys ws k2) (l1 : Le k1 g) (l2 : Le k2 g) : gz G (xs ++ ys) (zs ++ ws) g := by
  refine ⟨by simp [h1.1, h2.1], fun i y u hy hu => ?_⟩
  by_cases hi : i < xs.length
  · rw [List.getElem?_append_left hi] at hy
    rw [List.getElem?_append_left (by rw [h1.1]; exact hi)] at hu
    obtain ⟨k, a, b⟩ := h1.2 i y u hy hu
    exact ⟨k, a, b.trans l1⟩
  · rw [List.getElem?_append_right (by omega)] at hy
    rw [List.getElem?_append_right (by rw [h1.1]; omega), h1.1] at hu
    obtain ⟨k, a, b⟩ := h2.2 _ y u hy hu
    exact ⟨k, a, b.trans l2⟩
theorem Post.gzc {x : α} {z : Value} (m : q ∈ R) (hq : G x z = q) (h : Post C E L (gz G (x :: xs) (z :: zs) :: R) K) : Post C E L (gz G xs zs :: R) K := fun a w e s => by
  subst hq
  exact h a w e (Sat.rdrop2 (s.rjoin (p := G x z) (p2 := gz G xs zs) (List.mem_cons_of_mem _ m) List.mem_cons_self fun k1 k2 g a1 a2 b1 b2 => gz_cons a1 a2 b1 b2))
theorem Post.gza (m : gz G xs zs ∈ R) (m2 : gz G ys ws ∈ R) (h : Post C E L (gz G (xs ++ ys) (zs ++ ws) :: R) K) : Post C E L R K := fun a w e s =>
  h a w e (s.rjoin m m2 fun k1 k2 g a1 a2 b1 b2 => gz_append a1 a2 b1 b2)
/-- A part's slice. -/
theorem Post.gzx {i : Nat} {x : α} {q : Value → Asn} (m : gz G xs zs ∈ R) (hx : xs[i]? = some x) (hq : ∀ z, G x z = q z) (k : ∀ z, zs[i]? = some z → (List.zipWith D xs zs)[i]? = some (D x z) → Post C E L (q z :: R) K) : Post C E L R K := fun a w e s => by
  have hl := s.rfact m fun _ r => r.1
  have hi : i < zs.length := by have := (List.getElem?_eq_some_iff.1 hx).1; omega
  have hz : zs[i]? = some zs[i] := List.getElem?_eq_getElem hi
  refine k zs[i] hz (zip_get hx hz) a w e ?_
  obtain ⟨hh, g, st, i1, i2, d, d1, d2, rr⟩ := s.own
  refine ⟨s.os, s.tape, s.output, s.size, s.keep, hh, g, st, i1, i2, d, d1, d2, fun p hp => ?_⟩
  rcases List.mem_cons.1 hp with rfl | hm
  · obtain ⟨k, a, b⟩ := rr _ m
    obtain ⟨k', a', b'⟩ := a.2 i x _ hx hz
    exact ⟨k', (hq _) ▸ a', b'.trans b⟩
  · exact rr p hm
theorem gz_one {h : Hp} (hG : ∀ x z h, G x z h → z.oneCell' = true) (hD : ∀ x z, z.oneCell' = true → oneAll (D x z) = true) : ∀ {xs : List α} {zs : List Value}, gz G xs zs h → oneAll (List.zipWith D xs zs).flatten = true := by
  intro xs
  induction xs with
  | nil => intro zs _; cases zs <;> rfl
  | cons x xs ih =>
    intro zs hz
    cases zs with
    | nil => rfl
    | cons z zs =>
      obtain ⟨k, a, _⟩ := hz.2 0 x z rfl rfl
      have h1 := hD x z (hG x z k a)
      have h2 := ih (zs := zs) ⟨by simpa using hz.1, fun i y u hy hu => hz.2 (i + 1) y u (by simpa using hy) (by simpa using hu)⟩
      simp only [List.zipWith_cons_cons, List.flatten_cons, oneAll, List.all_append, Bool.and_eq_true]
      exact ⟨h1, h2⟩
theorem Post.gzo (m : gz G xs zs ∈ R) (hG : ∀ x z h, G x z h → z.oneCell' = true) (hD : ∀ x z, z.oneCell' = true → oneAll (D x z) = true) (k : oneAll (List.zipWith D xs zs).flatten = true → Post C E L R K) : Post C E L R K :=
  .rfact m (fun h r => gz_one hG hD r) k
theorem slc_zip {i j : Nat} : slc (List.zipWith D xs zs) i j = List.zipWith D (slc xs i j) (slc zs i j) := by simp [slc, List.take_zipWith, List.drop_zipWith]
theorem Post.gzs (i j : Nat) (m : gz G xs zs ∈ R) (h : Post C E L (gz G (slc xs i j) (slc zs i j) :: R) K) : Post C E L R K := fun a w e s => h a w e (s.ro fun r hr => by
  rcases List.mem_cons.1 hr with rfl | hm
  · refine ⟨_, m, fun h hg => ⟨by simp [slc, hg.1], fun k x z hx hz => ?_⟩⟩
    simp only [slc, List.getElem?_drop, List.getElem?_take] at hx hz
    by_cases hk : i + k < j
    · rw [if_pos hk] at hx hz
      exact hg.2 _ x z hx hz
    · rw [if_neg hk] at hx
      cases hx
  · exact ⟨r, hm, fun _ x => x⟩)
/-- A part of a string. -/
theorem P.slst {E0 E1 : List (Nat × Value)} {d : Nat} {ty : TypeId} {pos : String} {aft : Array Edge} {gd : Option (Nat × Bool)} {o : Operand} {st : TypeId} {lo hi : Option Operand} {li hj : Option Int} {s : ByteArray}
    (h0 : Ev E o (.string s) E0) (h1 : Evo E0 lo li E1) (h2 : Evo E1 hi hj E') (hu : ∀ w, (underlying st).run C.P w = .ok .string w) (hok : okS s.size li hj none) :
    OpP C E ⟨some d, .slice st o lo hi none, ty, pos, aft, gd⟩ (.string (s.extract (li.getD 0).toNat (hj.getD s.size).toNat)) E' := fun a w he => by
  obtain ⟨a0, b0⟩ := h0 _ a he
  obtain ⟨a1, b1⟩ := h1.ev b0
  obtain ⟨a2, b2⟩ := h2.ev b1
  obtain ⟨m', hb, hb1, hb2⟩ := run_bounds (P := C.P) (w := w) (z := false) (len := s.size) (cap := s.size) hok (Nat.le_refl _)
  refine ⟨?_, b2⟩
  simp only [Option.map_none] at hb
  simp [execOp, a0, a1, a2, Instr.sliceAt, Instr.slice, hu, hb]
/-- string(b), b a part's slice. -/
theorem V.b2sz {d : Nat} {ty : TypeId} {pos : String} {aft : Array Edge} {gd : Option (Nat × Bool)} {o : Operand} {l : List UInt8} {src dst e : TypeId} {i : Nat} {x : α} {v : Value} (h : Ev E o v E') (m : gz G xs zs ∈ R) (hx : xs[i]? = some x) (hz : zs[i]? = some v) (hG : G x v = rows 1 v (l.map fun x => [B8 x]))
    (hs : C.P.underlying src = some (.slice e)) (he : C.P.underlying e = some (.int .u8)) (hd : C.P.underlying dst = some .string) : OpV C E L R ⟨some d, .convert src dst o, ty, pos, aft, gd⟩ (.string ⟨⟨l⟩⟩) E' := fun a w he' hst => by
  obtain ⟨h1, h2⟩ := h _ a he'
  obtain ⟨k, hk, hin⟩ := hst.ro_at m
  obtain ⟨k', hk', hle⟩ := hk.2 i x v hx hz
  rw [hG] at hk'
  refine ⟨?_, h2⟩
  simp only [execOp, h1]
  rw [Sem.run_bind, run_b2s hs he hd hk' (hle.inw hin)]; rfl
end
end Go.Sl
