/- Functions that come to something: a small calculus. -/
import Derived.Test.YtjlalcoommhfoaaGreatSlPlain
import Derived.Test.YtjlalcoommhfoaaGreatSlPx
set_option linter.unusedVariables false
namespace Go.Sl
/-- It comes to something of which Q holds. -/
def Tt {α : Type} (x : Option α) (Q : α → Prop) : Prop := ∃ r, x = some r ∧ Q r
section
variable {α β γ σ : Type} {x y : Option α} {P Q : α → Prop} {S : β → Prop} {f : α → Option β} {r : α} {p : Prop}
theorem Tt.pure (h : Q r) : Tt (some r) Q := ⟨r, rfl, h⟩
theorem Tt.bind (h : Tt x P) (k : ∀ y, P y → Tt (f y) S) : Tt (Option.bind x f) S := by
  obtain ⟨y, rfl, hy⟩ := h
  exact k y hy
theorem Tt.grd [Decidable p] (hp : p) (h : Tt x Q) : Tt (grd p x) Q := by rw [grd_pos hp]; exact h
theorem Tt.ite {b : Bool} (h1 : b = true → Tt x Q) (h2 : b = false → Tt y Q) : Tt (if b = true then x else y) Q := by
  cases b
  · exact h2 rfl
  · exact h1 rfl
theorem Tt.thn {a : γ} {f : γ → Option α} (h : Tt (f a) Q) : Tt (thn a f) Q := h
theorem Tt.thn' {a : γ} {f : γ → Option α} (h : ∀ y, a = y → Tt (f y) Q) : Tt (Sl.thn a f) Q := h a rfl
theorem Tt.mono (h : Tt x P) (i : ∀ y, P y → Q y) : Tt x Q := by obtain ⟨y, e, hy⟩ := h; exact ⟨y, e, i y hy⟩
theorem Tt.pxe {x : Option (Px α)} {P : Px α → Prop} {fe : Int → Option β} (h : Tt x P) (ke : ∀ e, P (.er e) → Tt (fe e) S) (ko : ∀ y, P (.ok y) → Tt (f y) S) : Tt (pxe x fe f) S := by
  obtain ⟨y, rfl, hy⟩ := h
  cases y with
  | ok y => exact ko y hy
  | er e => exact ke e hy
theorem Tt.at_ {xs : List α} {m : Int} (h0 : 0 ≤ m) (h : m < xs.length) (hq : ∀ x, xs[m.toNat]? = some x → Q x) : Tt (at_ xs m) Q := by
  refine ⟨_, at_ok h0 h, hq _ ?_⟩
  exact List.getElem?_eq_getElem _
theorem Tt.at1 {xs : List α} {m : Int} (h0 : 0 ≤ m) (h : m < xs.length) : Tt (Sl.at_ xs m) (fun x => x ∈ xs) := .at_ h0 h fun x hx => List.mem_of_getElem? hx
theorem Tt.map {f : α → β} (h : Tt x P) (k : ∀ y, P y → S (f y)) : Tt (Option.map f x) S := by
  obtain ⟨y, rfl, hy⟩ := h
  exact ⟨f y, rfl, k y hy⟩
theorem Tt.lo {o : Lo σ β} {k : σ → Option β} (h1 : ∀ s, o = .dn s → Tt (k s) S) (h2 : ∀ r, o = .rt r → S r) : Tt (Lo.on o k) S := by
  cases o with
  | dn s => exact h1 s rfl
  | rt r => exact ⟨r, rfl, h2 r rfl⟩
/-- What a join comes to: the ways' ends. -/
def LoP (D : σ → Prop) (S : β → Prop) : Lo σ β → Prop
  | .dn s => D s
  | .rt r => S r
theorem Tt.join {a : Option (Lo σ β)} {k : σ → Option β} {D : σ → Prop} (h : Tt a (LoP D S)) (h1 : ∀ s, D s → Tt (k s) S) : Tt (Option.bind a fun o => Lo.on o k) S := by
  obtain ⟨o, rfl, ho⟩ := h
  cases o with
  | dn s => exact h1 s ho
  | rt r => exact ⟨r, rfl, ho⟩
def CtP (I : σ → Prop) (D : σ → Prop) (S : β → Prop) : Ct σ β → Prop
  | .nx s => I s
  | .br s => D s
  | .rt r => S r
/-- A loop over a list. -/
theorem Tt.loopR {f : Nat → α → σ → Option (Ct σ β)} {xs : List α} {s0 : σ} {k : σ → Option β} (I : Nat → σ → Prop) (h0 : I 0 s0)
    (step : ∀ i x s, xs[i]? = some x → I i s → Tt (f i x s) (CtP (I (i + 1)) (I xs.length) S)) (fin : ∀ s, I xs.length s → Tt (k s) S) : Tt (Option.bind (loopR f 0 xs s0) fun o => Lo.on o k) S := by
  refine loopR_bind (G := S) I (fun o => match o with | .dn s => I xs.length s | .rt r => S r) h0 (fun i x s hx hI => ?_) (fun s hs => hs) (fun o ho => ?_)
  · obtain ⟨c, hc, hp⟩ := step i x s hx hI
    refine ⟨c, hc, ?_⟩
    cases c <;> exact hp
  · cases o with
    | dn s => exact fin s ho
    | rt r => exact ⟨r, rfl, ho⟩
/-- A loop that a number lowers. -/
theorem Tt.loopW {f : σ → Option (Ct σ β)} {s0 : σ} {k : σ → Option β} (I : Nat → σ → Prop) (D : σ → Prop) (n : Nat) (h0 : I n s0)
    (step : ∀ n s, I n s → Tt (f s) (CtP (fun s' => ∃ m, m < n ∧ I m s') D S)) (fin : ∀ s, D s → Tt (k s) S) : Tt (Option.bind (loopW f s0) fun o => Lo.on o k) S := by
  refine loopW_bind (G := S) I (fun o => match o with | .dn s => D s | .rt r => S r) n h0 (fun n s hI => ?_) (fun o ho => ?_)
  · obtain ⟨c, hc, hp⟩ := step n s hI
    refine ⟨c, hc, ?_⟩
    cases c <;> exact hp
  · cases o with
    | dn s => exact fin s ho
    | rt r => exact ⟨r, rfl, ho⟩
end
end Go.Sl
