/- What is known of lists of slices at a call from outside. -/
import Derived.Test.YtjlalcoommhfoaaGreatSlRowZ
import Derived.Test.YtjlalcoommhfoaaGreatSlRz
set_option linter.unusedVariables false
namespace Go.Sl
section
variable {α : Type} {G : α → Value → Asn} {xs : List α} {zs : List Value}
/-- What is known at the top. -/
theorem gz_top {w : World} (hl : zs.length = xs.length) (h : ∀ (i : Nat) (x : α) (z : Value), xs[i]? = some x → zs[i]? = some z → ∃ k : Hp, G x z k ∧ k.In w) : ∃ k : Hp, gz G xs zs k ∧ k.In w := by
  refine ⟨fun b => w.heap[b]?, ⟨hl, fun i x z hx hz => ?_⟩, fun b o e => e⟩
  obtain ⟨k, a, b⟩ := h i x z hx hz
  exact ⟨k, a, b⟩
end
end Go.Sl
