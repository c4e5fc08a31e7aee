/- Sorted lists, and what a stable sort leaves as it is. -/
import Derived.Test.YteijfoldbinghaaSlPlain
set_option linter.unusedVariables false
set_option linter.unusedSimpArgs false
namespace Go.Sl
section
variable {α : Type} (key : α → Int)
/-- Nothing has passed its like. -/
def SK (a b : List α) : Prop := ∀ k : Int, a.filter (fun x => decide (key x = k)) = b.filter (fun x => decide (key x = k))
def Srt (l : List α) : Prop := l.Pairwise fun x y => key x ≤ key y
variable {key} {a b c p q x y z : List α}
theorem SK.refl : SK key a a := fun _ => rfl
theorem SK.trans (h : SK key a b) (h' : SK key b c) : SK key a c := fun k => (h k).trans (h' k)
theorem SK.symm (h : SK key a b) : SK key b a := fun k => (h k).symm
theorem SK.app (h : SK key a b) (h' : SK key p q) : SK key (a ++ p) (b ++ q) := fun k => by rw [List.filter_append, List.filter_append, h k, h' k]
theorem SK.mem (h : SK key a b) {u : α} : u ∈ a ↔ u ∈ b := by
  have := h (key u)
  constructor
  · intro hu
    have h1 : u ∈ a.filter (fun x => decide (key x = key u)) := List.mem_filter.2 ⟨hu, by simp⟩
    rw [this] at h1; exact (List.mem_filter.1 h1).1
  · intro hu
    have h1 : u ∈ b.filter (fun x => decide (key x = key u)) := List.mem_filter.2 ⟨hu, by simp⟩
    rw [← this] at h1; exact (List.mem_filter.1 h1).1
/-- Two parts change places, where all of the second are less. -/
theorem SK.swap (h : ∀ u ∈ x, ∀ v ∈ y, key v < key u) : SK key (x ++ y) (y ++ x) := fun k => by
  rw [List.filter_append, List.filter_append]
  by_cases hx : ∃ u ∈ x, key u = k
  · obtain ⟨u, hu, rfl⟩ := hx
    have : y.filter (fun v => decide (key v = key u)) = [] := List.filter_eq_nil_iff.2 fun v hv => by
      have := h u hu v hv
      simp; omega
    rw [this]; simp
  · have : x.filter (fun v => decide (key v = k)) = [] := List.filter_eq_nil_iff.2 fun v hv => by
      simp only [decide_eq_true_eq]; exact fun e => hx ⟨v, hv, e⟩
    rw [this]; simp
theorem SK.len (h : SK key a b) : a.length = b.length := by
  induction a generalizing b with
  | nil =>
    cases b with
    | nil => rfl
    | cons u b => have := (h.mem (u := u)).2 List.mem_cons_self; simp at this
  | cons u a ih =>
    have hu := (h.mem (u := u)).1 List.mem_cons_self
    -- take the first of u's like
    obtain ⟨b1, w, b2, rfl, hw, hb1⟩ : ∃ b1 w b2, b = b1 ++ w :: b2 ∧ key w = key u ∧ ∀ v ∈ b1, key v ≠ key u := by
      clear ih h
      induction b with
      | nil => simp at hu
      | cons v b ih =>
        by_cases hv : key v = key u
        · exact ⟨[], v, b, rfl, hv, by simp⟩
        · rcases List.mem_cons.1 hu with rfl | hm
          · exact absurd rfl hv
          · obtain ⟨b1, w, b2, rfl, h1, h2⟩ := ih hm
            exact ⟨v :: b1, w, b2, rfl, h1, fun z hz => by
              rcases List.mem_cons.1 hz with rfl | hz
              · exact hv
              · exact h2 z hz⟩
    have h2 : SK key a (b1 ++ b2) := fun k => by
      have hk := h k
      by_cases hku : key u = k
      · subst hku
        rw [List.filter_cons_of_pos (by simp), List.filter_append, List.filter_cons_of_pos (by simp [hw])] at hk
        have hn : b1.filter (fun x => decide (key x = key u)) = [] := List.filter_eq_nil_iff.2 fun v hv => by simpa using hb1 v hv
        rw [hn] at hk
        rw [List.filter_append, hn]
        simp at hk ⊢
        exact hk.2
      · rw [List.filter_cons_of_neg (by simpa using hku), List.filter_append, List.filter_cons_of_neg (by rw [hw]; simpa using hku)] at hk
        rw [List.filter_append]; exact hk
    have := ih h2
    simp at this ⊢; omega
/-- A sorted list is told by its parts of one key each. -/
theorem Srt.uniq (ha : Srt key a) (hb : Srt key b) (h : SK key a b) : a = b := by
  induction a generalizing b with
  | nil => have := h.len; cases b with
    | nil => rfl
    | cons => simp at this
  | cons u a ih =>
    cases b with
    | nil => have := h.len; simp at this
    | cons v b =>
      obtain ⟨ha1, ha2⟩ := List.pairwise_cons.1 ha
      obtain ⟨hb1, hb2⟩ := List.pairwise_cons.1 hb
      have huv : key u ≤ key v := by
        rcases List.mem_cons.1 ((h.mem (u := v)).2 List.mem_cons_self) with rfl | hm
        · exact Int.le_refl _
        · exact ha1 v hm
      have hvu : key v ≤ key u := by
        rcases List.mem_cons.1 ((h.mem (u := u)).1 List.mem_cons_self) with rfl | hm
        · exact Int.le_refl _
        · exact hb1 u hm
      have hk := h (key u)
      rw [List.filter_cons_of_pos (by simp), List.filter_cons_of_pos (by simp; omega)] at hk
      obtain ⟨rfl, _⟩ := List.cons.inj hk
      rw [ih ha2 hb2 fun k => ?_]
      have hk := h k
      by_cases hku : key u = k
      · rw [List.filter_cons_of_pos (by simpa using hku), List.filter_cons_of_pos (by simpa using hku)] at hk
        exact (List.cons.inj hk).2
      · rw [List.filter_cons_of_neg (by simpa using hku), List.filter_cons_of_neg (by simpa using hku)] at hk
        exact hk
theorem Srt.app (ha : Srt key a) (hb : Srt key b) (h : ∀ u ∈ a, ∀ v ∈ b, key u ≤ key v) : Srt key (a ++ b) := List.pairwise_append.2 ⟨ha, hb, h⟩
theorem Srt.left (h : Srt key (a ++ b)) : Srt key a := (List.pairwise_append.1 h).1
theorem Srt.right (h : Srt key (a ++ b)) : Srt key b := (List.pairwise_append.1 h).2.1
theorem Srt.cross (h : Srt key (a ++ b)) : ∀ u ∈ a, ∀ v ∈ b, key u ≤ key v := (List.pairwise_append.1 h).2.2
theorem Srt.filter (h : Srt key a) (f : α → Bool) : Srt key (a.filter f) := List.Pairwise.filter f h
theorem SK.filter (h : SK key a b) (f : α → Bool) : SK key (a.filter f) (b.filter f) := fun k => by
  rw [List.filter_filter, List.filter_filter]
  have := congrArg (List.filter f) (h k)
  rw [List.filter_filter, List.filter_filter] at this
  have e : ∀ l : List α, l.filter (fun x => decide (key x = k) && f x) = l.filter (fun x => f x && decide (key x = k)) := fun l => by
    congr 1; funext x; exact Bool.and_comm _ _
  rw [e, e]; exact this
theorem srt_at {l : List α} (h : Srt key l) {i j : Nat} {u v : α} (hi : l[i]? = some u) (hj : l[j]? = some v) (hij : i ≤ j) : key u ≤ key v := by
  obtain ⟨h1, rfl⟩ := List.getElem?_eq_some_iff.1 hi
  obtain ⟨h2, rfl⟩ := List.getElem?_eq_some_iff.1 hj
  rcases Nat.lt_or_ge i j with hlt | hge
  · exact List.pairwise_iff_getElem.1 h i j h1 h2 hlt
  · obtain rfl : i = j := by omega
    exact Int.le_refl _
end
end Go.Sl
