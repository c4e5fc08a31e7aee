/- What a nil pointer, or a nil map, has is nothing; lists of parts that are all nothing. -/
import Derived.Test.YtjlalcoommhfoaaGreatSlBx
set_option linter.unusedVariables false
namespace Go.Sl
theorem bx_nilp {α γ : Type} {bd : γ → Nat} {F : α → γ → List Asn → List Asn} {x : Option α} {h : Hp} (hh : bx bd F nilp x h) : bx bd F nilp none h := by
  cases x with
  | none => exact hh
  | some y => obtain ⟨g, hz, _⟩ := hh; cases hz
theorem mb_nilp {α β : Type} {f : α → Value} {g : β → Value} {x : Option (List (α × β))} {h : Hp} (hh : mb f g (.map none) x h) : mb f g (.map none) none h := by
  cases x with
  | none => exact hh
  | some y => obtain ⟨r, hz, _⟩ := hh; cases hz
theorem rows_nil0 {sz : Nat} {h : Hp} : rows sz nilSl [] h := ⟨by simp, by simp, .inl ⟨rfl, _, _, rfl⟩⟩
section
variable {C : Cx} {E : List (Nat × Value)} {L R : List Asn} {K : Act → World → Prop} {α : Type} {G : α → Value → Asn} {D : α → Value → List Value}
theorem gz_rep {x0 : α} {z0 : Value} (n : Nat) (h0 : ∀ h, G x0 z0 h) {h : Hp} : gz G (List.replicate n x0) (List.replicate n z0) h := ⟨by simp, fun i x z hx hz => by
  obtain rfl : x0 = x := (List.eq_of_mem_replicate (List.mem_of_getElem? hx)).symm
  obtain rfl : z0 = z := (List.eq_of_mem_replicate (List.mem_of_getElem? hz)).symm
  exact ⟨h, h0 h, Le.refl _⟩⟩
theorem Post.gzr {x0 : α} {z0 : Value} (n : Nat) (h0 : ∀ h, G x0 z0 h) (k : Post C E L (gz G (List.replicate n x0) (List.replicate n z0) :: R) K) : Post C E L R K := fun a w e s => k a w e (by
  obtain ⟨hh, g, st, i1, i2, d, d1, d2, r⟩ := s.own
  refine ⟨s.os, s.tape, s.output, s.size, s.keep, hh, g, st, i1, i2, d, d1, d2, fun p hp => ?_⟩
  rcases List.mem_cons.1 hp with rfl | hm
  · exact ⟨g, gz_rep n h0, Le.refl _⟩
  · exact r p hm)
theorem zip_rep {x : α} {z : Value} (n : Nat) : List.zipWith D (List.replicate n x) (List.replicate n z) = List.replicate n (D x z) := by
  rw [List.zipWith_replicate]; simp
end
/-- A question of one's own. -/
theorem Post.dec {C : Cx} {E : List (Nat × Value)} {L R : List Asn} {K : Act → World → Prop} (φ : Prop) [Decidable φ] (h0 : decide φ = true → Post C E L R K) (h1 : decide φ = false → Post C E L R K) : Post C E L R K := by
  by_cases h : φ
  · exact h0 (decide_eq_true h)
  · exact h1 (decide_eq_false h)
theorem Post.bxp {C : Cx} {E : List (Nat × Value)} {L L' R : List Asn} {K : Act → World → Prop} {α γ : Type} {bd : γ → Nat} {F : α → γ → List Asn → List Asn} {z : Value} {o : Option α}
    (tk : Tk (bx bd F z o) L L') (k : (∃ a, z = .pointer a) → Post C E L R K) : Post C E L R K := .fact tk (fun _ h => by
  cases o with
  | none => exact ⟨_, h⟩
  | some y => obtain ⟨g, rfl, _⟩ := h; exact ⟨_, rfl⟩) k
end Go.Sl
