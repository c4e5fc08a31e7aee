/- What transactions move. -/
import Derived.Test.YteijfoldbinghaaGreatHpLwHis
import Derived.Test.YteijfoldbinghaaGreatHpLwEsc
set_option linter.unusedVariables false
set_option linter.unusedSimpArgs false
namespace Go.Sl
def PxN {α : Type} (Q : α → Prop) : Px α → Prop
  | .ok y => Q y
  | .er e => e ≠ 0
def cel (b : purse_Book) (a s : Int) : Nat := ((at_ (purse_Book.list b) a).bind fun x => at_ (A2_api_Wide.list x) s).elim 0 V
def hel (h : A2_api_Wide) (s : Int) : Nat := (at_ (A2_api_Wide.list h) s).elim 0 V
theorem at_set {α : Type} {l : List α} {a x : Int} {v : α} (ha : 0 ≤ a) (hl : a < l.length) (hx : 0 ≤ x) : at_ (l.set a.toNat v) x = if x = a then some v else at_ l x := by
  obtain ⟨n, rfl⟩ := Int.eq_ofNat_of_zero_le ha
  obtain ⟨m, rfl⟩ := Int.eq_ofNat_of_zero_le hx
  rw [at_nat, at_nat, List.getElem?_set]
  by_cases h : n = m
  · subst h; simp; omega
  · have h' : ¬ ((m : Int) = (n : Int)) := by omega
    simp [h, h']
theorem bk_list (b : purse_Book) (v : A2_api_Wide) {k : Nat} (h : k < 8) : purse_Book.list (purse_Book.set b k v) = (purse_Book.list b).set k v := by
  match k, h with
  | 0, _ => rfl
  | 1, _ => rfl
  | 2, _ => rfl
  | 3, _ => rfl
  | 4, _ => rfl
  | 5, _ => rfl
  | 6, _ => rfl
  | 7, _ => rfl
theorem a2_list (b : A2_api_Wide) (v : api_Wide) {k : Nat} (h : k < 2) : A2_api_Wide.list (A2_api_Wide.set b k v) = (A2_api_Wide.list b).set k v := by
  match k, h with
  | 0, _ => rfl
  | 1, _ => rfl
theorem hel_set {h : A2_api_Wide} {s y : Int} (w : api_Wide) (hs : 0 ≤ s ∧ s < 2) (hy : 0 ≤ y ∧ y < 2) : hel (A2_api_Wide.set h s.toNat w) y = if y = s then V w else hel h y := by
  unfold hel
  rw [a2_list _ _ (by omega), at_set hs.1 (by simpa [A2_api_Wide.list] using hs.2) hy.1]
  split <;> rfl
theorem cel_set {b : purse_Book} {a s x y : Int} {c : A2_api_Wide} (w : api_Wide) (hv : purse_at a s = true) (hc : at_ (purse_Book.list b) a = some c) (hx : purse_at x y = true) :
    cel (purse_Book.set b a.toNat (A2_api_Wide.set c s.toNat w)) x y = if x = a ∧ y = s then V w else cel b x y := by
  obtain ⟨a8, s2⟩ := at_iff.1 hv
  obtain ⟨x8, y2⟩ := at_iff.1 hx
  unfold cel
  rw [bk_list _ _ (by omega), at_set a8.1 (by simpa [purse_Book.list] using a8.2) x8.1]
  by_cases h : x = a
  · subst h
    have := hel_set (h := c) w s2 y2
    unfold hel at this
    rw [if_pos rfl, Option.bind_some, this, hc, Option.bind_some]
    simp
  · simp [h]
theorem cel_at {b : purse_Book} {a s : Int} {c : A2_api_Wide} {w : api_Wide} (hc : at_ (purse_Book.list b) a = some c) (hw : at_ (A2_api_Wide.list c) s = some w) : cel b a s = V w := by
  unfold cel
  rw [hc, Option.bind_some, hw]
  rfl
/-- So much of one cell. -/
def d1 (a s : Int) (n : Nat) (x y : Int) : Nat := if x = a ∧ y = s then n else 0
theorem Take_sp (b : purse_Book) (a s : Int) (w : api_Wide) : Tt (purse_Book_Take b a s w) (fun r => (r.2 ≠ 0 → r.1 = b) ∧ (r.2 = 0 → purse_at a s = true ∧ ∀ x y, purse_at x y = true → cel r.1 x y + d1 a s (V w) x y = cel b x y)) := by
  unfold purse_Book_Take
  refine .ite (fun _ => .pure ⟨fun _ => rfl, fun h => by simp at h⟩) fun h => ?_
  have h' : purse_at a s = true := by simpa using h
  obtain ⟨h1, h2⟩ := at_iff.1 h'
  obtain ⟨c, hc⟩ := bk_at b h1
  obtain ⟨z, hz⟩ := a2_at c h2
  simp only [hc, hz, Option.bind_some]
  refine .ite (fun _ => .pure ⟨fun _ => rfl, fun h => by simp at h⟩) fun hs => .pure ⟨fun h => by simp at h, fun _ => ⟨h', fun x y hx => ?_⟩⟩
  have hs' : (wide_Sub z w).2 = true := by simpa using hs
  have hsp := wide_Sub_spec z w
  have hle : V w ≤ V z := by
    refine Classical.byContradiction fun hn => ?_
    rw [hsp.2 (by omega)] at hs'
    simp at hs'
  dsimp only
  rw [cel_set _ h' hc hx, (hsp.1 hle).2]
  unfold d1
  split
  · next h => obtain ⟨rfl, rfl⟩ := h; rw [cel_at hc hz]; omega
  · rfl
theorem Give_sp (b : purse_Book) (a s : Int) (w : api_Wide) : Tt (purse_Book_Give b a s w) (fun r => (r.2 ≠ 0 → r.1 = b) ∧ (r.2 = 0 → purse_at a s = true ∧ ∀ x y, purse_at x y = true → cel r.1 x y = cel b x y + d1 a s (V w) x y)) := by
  unfold purse_Book_Give
  refine .ite (fun _ => .pure ⟨fun _ => rfl, fun h => by simp at h⟩) fun h => ?_
  have h' : purse_at a s = true := by simpa using h
  obtain ⟨h1, h2⟩ := at_iff.1 h'
  obtain ⟨c, hc⟩ := bk_at b h1
  obtain ⟨z, hz⟩ := a2_at c h2
  simp only [hc, hz, Option.bind_some]
  refine .ite (fun _ => .pure ⟨fun _ => rfl, fun h => by simp at h⟩) fun hs => .pure ⟨fun h => by simp at h, fun _ => ⟨h', fun x y hx => ?_⟩⟩
  have hs' : (wide_Add z w).2 = true := by simpa using hs
  have hsp := wide_Add_spec z w
  have hle : V z + V w < B256 := by
    refine Classical.byContradiction fun hn => ?_
    rw [hsp.2 (by omega)] at hs'
    simp at hs'
  dsimp only
  rw [cel_set _ h' hc hx, (hsp.1 hle).2]
  unfold d1
  split
  · next h => obtain ⟨rfl, rfl⟩ := h; rw [cel_at hc hz]
  · rfl
theorem Move_sp (b : purse_Book) (a c s : Int) (w : api_Wide) : Tt (purse_Book_Move b a c s w) (fun r => r.2 = 0 → purse_at a s = true ∧ V w ≤ cel b a s ∧ ∀ x y, purse_at x y = true → cel r.1 x y + d1 a s (V w) x y = cel b x y + d1 c s (V w) x y) := by
  unfold purse_Book_Move
  refine .bind (Take_sp _ _ _ _) fun r1 h1 => .ite (fun h => .pure fun h0 => ?_) fun h => ?_
  · simp at h; exact absurd h0 h
  · have e1 : r1.2 = 0 := by simpa using h
    obtain ⟨g1, g2⟩ := h1.2 e1
    refine .bind (Give_sp _ _ _ _) fun r2 h2 => .ite (fun h => .pure fun h0 => ?_) fun h => .pure fun _ => ⟨g1, ?_, fun x y hx => ?_⟩
    · simp at h; exact absurd h0 h
    · have := g2 a s g1
      unfold d1 at this
      simp at this
      omega
    · have e2 : r2.2 = 0 := by simpa using h
      have := g2 x y hx
      have := (h2.2 e2).2 x y hx
      dsimp only
      omega
theorem check_sp (e : Int) : Tt (escrow_check e) (PxN fun _ => e = 0) := by
  unfold escrow_check
  refine .ite (fun h => .pure ?_) fun h => .pure ?_
  · show e ≠ 0; simpa using h
  · show e = 0; simpa using h
theorem need_sp (b : Bool) {e : Int} (he : e ≠ 0) : Tt (escrow_need b e) (PxN fun _ => b = true) := by
  unfold escrow_need
  refine .ite (fun h => .pure he) fun h => .pure ?_
  show b = true; simpa using h
theorem take_sp (b : purse_Book) (a s : Int) (w : api_Wide) : Tt (escrow_take_int b a s w) (PxN fun r => purse_at a s = true ∧ V w ≤ cel b a s ∧ ∀ x y, purse_at x y = true → cel r x y + d1 a s (V w) x y = cel b x y) := by
  unfold escrow_take_int
  refine .bind (Take_sp _ _ _ _) fun r h => .pxe (check_sp _) (fun _ h => .pure h) fun _ h0 => .pure ?_
  obtain ⟨g1, g2⟩ := h.2 h0
  refine ⟨g1, ?_, g2⟩
  have := g2 a s g1
  unfold d1 at this
  simp at this
  omega
theorem put_sp (b : purse_Book) (a s : Int) (w : api_Wide) : Tt (escrow_put_int b a s w) (PxN fun r => purse_at a s = true ∧ ∀ x y, purse_at x y = true → cel r x y = cel b x y + d1 a s (V w) x y) := by
  unfold escrow_put_int
  exact .bind (Give_sp _ _ _ _) fun r h => .pxe (check_sp _) (fun _ h => .pure h) fun _ h0 => .pure (h.2 h0)
theorem put_tot' (b : purse_Book) (a s : Int) (w : api_Wide) : Tt (escrow_put_int b a s w) (PxN fun _ => True) := by
  unfold escrow_put_int
  exact .bind (Give_tot _ _ _ _) fun r h => .pxe (check_sp _) (fun _ h => .pure h) fun _ h0 => .pure trivial
theorem ern {α σ : Type} {D : σ → Prop} {Q : α → Prop} {e : Int} (h : e ≠ 0) : Tt (Option.map (Lo.rt (σ := σ)) (some (Px.er e : Px α))) (LoP D (PxN Q)) := ⟨_, rfl, h⟩
theorem ern2 {α σ τ : Type} {D : σ → Prop} {E : τ → Prop} {Q : α → Prop} {e : Int} (h : e ≠ 0) : Tt (Option.map (Lo.rt (σ := τ)) (Option.map (Lo.rt (σ := σ)) (some (Px.er e : Px α)))) (LoP E (LoP D (PxN Q))) := ⟨_, rfl, h⟩
theorem hold_sp (s : escrow_State) {a : Int} (w : api_Wide) (h : 0 ≤ a ∧ a < 2) : Tt (escrow_State_hold s a w) (PxN fun r => r.Side = s.Side ∧ r.Purse = s.Purse ∧ ∀ y, 0 ≤ y ∧ y < 2 → hel r.Held y ≤ hel s.Held y + V w) := by
  unfold escrow_State_hold
  obtain ⟨x, hx⟩ := a2_at s.Held h
  simp only [hx, Option.bind_some]
  refine .pxe (need_sp _ (by decide)) (fun _ h => .pure h) fun _ hn => .pure ⟨rfl, rfl, fun y hy => ?_⟩
  replace hn : (wide_Add x w).2 = true := hn
  have hsp := wide_Add_spec x w
  have hle : V x + V w < B256 := by
    refine Classical.byContradiction fun h => ?_
    rw [hsp.2 (by omega)] at hn
    simp at hn
  dsimp only
  rw [hel_set _ h hy, (hsp.1 hle).2]
  split
  · next h => subst h; unfold hel; rw [hx]; exact Nat.le_refl _
  · omega
theorem free_sp (s : escrow_State) {a : Int} (w : api_Wide) (h : 0 ≤ a ∧ a < 2) : Tt (escrow_State_free s a w) (PxN fun r => r.Side = s.Side ∧ r.Purse = s.Purse ∧ V w ≤ hel s.Held a ∧ ∀ y, 0 ≤ y ∧ y < 2 → hel r.Held y ≤ hel s.Held y) := by
  unfold escrow_State_free
  obtain ⟨x, hx⟩ := a2_at s.Held h
  simp only [hx, Option.bind_some]
  refine .pxe (need_sp _ (by decide)) (fun _ h => .pure h) fun _ hn => ?_
  replace hn : (wide_Sub x w).2 = true := hn
  have hsp := wide_Sub_spec x w
  have hle : V w ≤ V x := by
    refine Classical.byContradiction fun h => ?_
    rw [hsp.2 (by omega)] at hn
    simp at hn
  have hh : hel s.Held a = V x := by unfold hel; rw [hx]; rfl
  refine .pure ⟨rfl, rfl, by omega, fun y hy => ?_⟩
  dsimp only
  rw [hel_set _ h hy, (hsp.1 hle).2]
  split
  · next h => subst h; omega
  · omega
theorem vault_sp (s : escrow_State) (r a : Int) (w : api_Wide) : Tt (escrow_State_vault s r a w) (PxN fun x => x.Side = s.Side ∧ x.Purse = s.Purse ∧ x.Held = s.Held) := by
  unfold escrow_State_vault
  exact .bind (Take_tot _ _ _ _) fun _ _ => .pxe (need_sp _ (by decide)) (fun _ h => .pure h) fun _ _ => .pure ⟨rfl, rfl, rfl⟩
structure Bd (M : Nat) (s : escrow_State) : Prop where
  cell : ∀ x y, purse_at x y = true → cel s.Purse x y ≤ M
  held : ∀ y, 0 ≤ y ∧ y < 2 → hel s.Held y ≤ M
structure Mv (M : Nat) (s s' : escrow_State) (i o : Int → Int → Nat) : Prop where
  side : s'.Side = s.Side
  cell : ∀ x y, purse_at x y = true → cel s'.Purse x y + o x y = cel s.Purse x y + i x y
  held : ∀ y, 0 ≤ y ∧ y < 2 → hel s'.Held y ≤ hel s.Held y + M
  ib : ∀ x y, i x y ≤ M
  ob : ∀ x y, o x y ≤ M
def nil2 : Int → Int → Nat := fun _ _ => 0
theorem d1_le {a s x y : Int} {n M : Nat} (h : n ≤ M) : d1 a s n x y ≤ M := by unfold d1; split <;> omega
theorem Mv.nil {M : Nat} {s s' : escrow_State} (h1 : s'.Side = s.Side) (h2 : s'.Purse = s.Purse) (h3 : s'.Held = s.Held) : Mv M s s' nil2 nil2 := ⟨h1, fun x y _ => by rw [h2], fun y _ => by rw [h3]; omega, fun _ _ => Nat.zero_le _, fun _ _ => Nat.zero_le _⟩
theorem store_sp {M : Nat} (s : escrow_State) (t : api_Tx) (h : okX t) (hb : Bd M s) : Tt (escrow_State_store s t) (PxN fun r => Mv M s r nil2 (d1 t.From t.Asset (V t.Amount))) := by
  unfold escrow_State_store
  refine .pxe (take_sp _ _ _ _) (fun _ h => .pure h) fun r1 h1 => .pxe (put_tot' _ _ _ _) (fun _ h => .pure h) fun _ _ => .pxe (hold_sp _ _ h.asset) (fun _ h => .pure h) fun r h3 => .pure ?_
  obtain ⟨g1, g2, g3⟩ := h1
  have hm : V t.Amount ≤ M := Nat.le_trans g2 (hb.cell _ _ g1)
  obtain ⟨k1, k2, k3⟩ := h3
  refine ⟨k1, fun x y hx => ?_, fun y hy => ?_, fun _ _ => Nat.zero_le _, fun _ _ => d1_le hm⟩
  · rw [k2]; exact g3 x y hx
  · have := k3 y hy
    dsimp only at this
    omega
theorem draw_sp {M : Nat} (s : escrow_State) (t : api_Tx) (h : okX t) (hb : Bd M s) : Tt (escrow_State_draw s t) (PxN fun r => Mv M s r (d1 t.From t.Asset (V t.Amount)) nil2) := by
  unfold escrow_State_draw
  refine .join (D := fun _ => True) (.ite (fun _ => ?_) fun _ => ?_) fun _ _ => ?_
  · exact .pxe (need_sp _ (by decide)) (fun _ h => ern h) fun _ _ => .pure trivial
  · exact .pxe (need_sp _ (by decide)) (fun _ h => ern h) fun _ _ => .pure trivial
  · refine .pxe (vault_sp _ _ _ _) (fun _ h => .pure h) fun s1 k1 => .pxe (put_sp _ _ _ _) (fun _ h => .pure h) fun r2 h2 => .pxe (free_sp _ _ h.asset) (fun _ h => .pure h) fun r h3 => .pure ?_
    obtain ⟨a1, a2, a3⟩ := k1
    obtain ⟨b1, b2⟩ := h2
    obtain ⟨c1, c2, c3, c4⟩ := h3
    dsimp only at *
    have hm : V t.Amount ≤ M := Nat.le_trans c3 (by rw [a3]; exact hb.held _ h.asset)
    refine ⟨c1.trans a1, fun x y hx => ?_, fun y hy => ?_, fun _ _ => d1_le hm, fun _ _ => Nat.zero_le _⟩
    · rw [c2]
      have := b2 x y hx
      rw [a2] at this
      exact this
    · have := c4 y hy
      rw [a3] at this
      omega
end Go.Sl
