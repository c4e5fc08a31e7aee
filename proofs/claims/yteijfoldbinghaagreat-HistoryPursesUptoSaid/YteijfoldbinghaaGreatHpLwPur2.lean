/- What transactions move, each kind. -/
import Derived.Test.YteijfoldbinghaaGreatHpLwPur
set_option linter.unusedVariables false
set_option linter.unusedSimpArgs false
namespace Go.Sl
theorem Tt.and {α : Type} {x : Option α} {P Q : α → Prop} (h : Tt x P) (k : Tt x Q) : Tt x (fun y => P y ∧ Q y) := by
  obtain ⟨y, rfl, hy⟩ := h
  obtain ⟨z, hz, hq⟩ := k
  cases hz
  exact ⟨_, rfl, hy, hq⟩
def pO (side : Int) (t : api_Tx) (x y : Int) : Nat := if side = 1 then 0 else d1 t.Inv.User t.Inv.Send (V t.Var.Amount) x y
def fI (side : Int) (t : api_Tx) (x y : Int) : Nat := if side = 1 then d1 t.Inv.To t.Inv.Recv (V t.Var.Amount - V t.Fee) x y + d1 t.From t.Inv.Recv (V t.Fee) x y else 0
def mvI (side : Int) (t : api_Tx) (x y : Int) : Nat :=
  if t.Kind = 1 then d1 t.Inv.To t.Asset (V t.Amount) x y else if t.Kind = 3 then d1 t.From t.Asset (V t.Amount) x y else if t.Kind = 5 then fI side t x y else if t.Kind = 6 then pO side t x y else 0
def mvO (side : Int) (t : api_Tx) (x y : Int) : Nat :=
  if t.Kind = 1 then d1 t.From t.Asset (V t.Amount) x y else if t.Kind = 2 then d1 t.From t.Asset (V t.Amount) x y else if t.Kind = 4 then pO side t x y else 0
theorem Mv.post {M : Nat} {s a b : escrow_State} {i o : Int → Int → Nat} (h : Mv M s a i o) (h1 : b.Side = a.Side) (h2 : b.Purse = a.Purse) (h3 : b.Held = a.Held) : Mv M s b i o :=
  ⟨h1.trans h.side, fun x y hx => by rw [h2]; exact h.cell x y hx, fun y hy => by rw [h3]; exact h.held y hy, h.ib, h.ob⟩
theorem Mv.cast {M : Nat} {s a : escrow_State} {i o i' o' : Int → Int → Nat} (h : Mv M s a i o) (hi : ∀ x y, i' x y = i x y) (ho : ∀ x y, o' x y = o x y) : Mv M s a i' o' := by
  have e1 : i' = i := funext fun x => funext fun y => hi x y
  have e2 : o' = o := funext fun x => funext fun y => ho x y
  rw [e1, e2]; exact h
theorem lock_sp (s : escrow_State) (t : api_Tx) : Tt (escrow_State_lock s t) (PxN fun r => r.1 < s.Locks.length) := by
  unfold escrow_State_lock
  refine .bind (Key_spec _) fun k _ => .bind (place_tot _ _) fun i hi => ?_
  refine .join (D := fun _ => 0 ≤ i) (.ite (fun h => ?_) fun _ => ?_) fun _ h0 => ?_
  · rw [decide_eq_true_iff] at h
    refine .bind (Tt.at1 (by omega) hi) fun x _ => ?_
    exact .pxe (need_sp _ (by decide)) (fun _ h => ern h) fun _ _ => .pure h
  · refine .pxe (need_sp _ (by decide)) (fun _ h => ern h) fun _ hf => ?_
    exact absurd hf (by intro h; cases h)
  · refine .bind (Tt.at1 h0 hi) fun x _ => .bind (Digest_spec _ _) fun d _ => .pxe (need_sp _ (by decide)) (fun _ h => .pure h) fun _ _ => ?_
    exact .bind (Tt.at1 h0 hi) fun y hy => .pure (show i.toNat < _ by omega)
theorem prepare_sp {M : Nat} (s : escrow_State) (t : api_Tx) (h : okI t.Inv) (hb : Bd M s) (hl : s.Locks.length ≤ 1048576) : Tt (escrow_State_prepare s t) (PxN fun r => Mv M s r nil2 (pO s.Side t)) := by
  unfold escrow_State_prepare
  refine .bind (Key_spec _) fun k _ => .bind (place_tot _ _) fun i _ => .pxe (need_sp _ (by decide)) (fun _ h => .pure h) fun _ _ => ?_
  refine .join (D := fun _ => True) (.ite (fun _ => ?_) fun _ => ?_) fun _ _ => ?_
  · exact .pxe (need_sp _ (by decide)) (fun _ h => ern h) fun _ _ => .pure trivial
  · exact .pxe (need_sp _ (by decide)) (fun _ h => ern h) fun _ _ => .pure trivial
  · refine .join (D := fun s1 => Mv M s s1 nil2 (pO s.Side t) ∧ s1.Locks = s.Locks) (.ite (fun hs => ?_) fun hs => ?_) fun s1 k1 => ?_
    · rw [decide_eq_true_iff] at hs
      refine .pxe (need_sp _ (by decide)) (fun _ h => ern h) fun _ _ => ?_
      refine .pxe (Tt.and (vault_tot _ _ _ _) (vault_sp _ _ _ _)) (fun _ h => ern h.2) fun _ k => .pure ⟨(Mv.nil k.2.1 k.2.2.1 k.2.2.2).cast (fun _ _ => rfl) fun x y => ?_, k.1.locks⟩
      unfold pO; rw [if_pos hs]; rfl
    · rw [decide_eq_false_iff_not] at hs
      refine .pxe (need_sp _ (by decide)) (fun _ h => ern h) fun _ hu => ?_
      have hu' : t.From = t.Inv.User := by simpa [PxN] using hu
      have h2 : 0 ≤ t.Inv.Send ∧ t.Inv.Send < 2 := ⟨h.send.1, by have := h.send.2; omega⟩
      refine .pxe (take_sp _ _ _ _) (fun _ h => ern h) fun r1 k1 => ?_
      obtain ⟨g1, g2, g3⟩ := k1
      have hm : V t.Var.Amount ≤ M := Nat.le_trans g2 (hb.cell _ _ g1)
      refine .pxe (Tt.and (hold_tot _ _ h2) (hold_sp _ _ h2)) (fun _ h => ern h.2) fun r k => .pure ⟨⟨k.2.1, fun x y hx => ?_, fun y hy => ?_, fun _ _ => Nat.zero_le _, fun x y => ?_⟩, k.1.locks⟩
      · rw [k.2.2.1]
        unfold pO
        rw [if_neg hs, ← hu']
        exact g3 x y hx
      · have := k.2.2.2 y hy
        dsimp only at this
        omega
      · unfold pO; rw [if_neg hs]; exact d1_le hm
    · refine .bind (Digest_spec _ _) fun d _ => .grd (by rw [k1.2]; simp; omega) (.pure (k1.1.post rfl rfl rfl))
theorem fulfil_sp {M : Nat} (s : escrow_State) (t : api_Tx) (h : okI t.Inv) (hb : Bd M s) : Tt (escrow_State_fulfil s t) (PxN fun r => Mv M s r (fI s.Side t) nil2) := by
  unfold escrow_State_fulfil
  refine .pxe (lock_sp _ _) (fun _ h => .pure h) fun l hl => .pxe (need_sp _ (by decide)) (fun _ h => .pure h) fun _ _ => .pxe (need_sp _ (by decide)) (fun _ h => .pure h) fun _ hn => ?_
  replace hn : (wide_Sub t.Var.Amount t.Fee).2 = true := hn
  have hsp := wide_Sub_spec t.Var.Amount t.Fee
  have hle : V t.Fee ≤ V t.Var.Amount := by
    refine Classical.byContradiction fun h => ?_
    rw [hsp.2 (by omega)] at hn
    simp at hn
  have hr := (hsp.1 hle).2
  refine .bind (signed_tot _ _) fun b _ => .pxe (need_sp _ (by decide)) (fun _ h => .pure h) fun _ _ => ?_
  refine .join (D := fun s1 => Mv M s s1 (fI s.Side t) nil2 ∧ s1.Locks = s.Locks) (.ite (fun hs => ?_) fun hs => ?_) fun s1 k1 => ?_
  · rw [decide_eq_true_iff] at hs
    have h2 : 0 ≤ t.Inv.Recv ∧ t.Inv.Recv < 2 := ⟨h.recv.1, by have := h.recv.2; omega⟩
    refine .pxe (put_sp _ _ _ _) (fun _ h => ern h) fun r1 a1 => .pxe (put_sp _ _ _ _) (fun _ h => ern h) fun r2 a2 => ?_
    refine .pxe (Tt.and (free_tot _ _ h2) (free_sp _ _ h2)) (fun _ h => ern h.2) fun r k => .pure ?_
    obtain ⟨k0, k1, k2, k3, k4⟩ := k
    have hm : V t.Var.Amount ≤ M := Nat.le_trans k3 (hb.held _ h2)
    refine ⟨⟨k1, fun x y hx => ?_, fun y hy => ?_, fun x y => ?_, fun _ _ => Nat.zero_le _⟩, k0.locks⟩
    · rw [k2]
      unfold fI
      rw [if_pos hs]
      have e1 := a1.2 x y hx
      have e2 := a2.2 x y hx
      rw [hr] at e1
      show cel r2 x y + 0 = _
      omega
    · have := k4 y hy
      dsimp only at this
      omega
    · unfold fI
      rw [if_pos hs]
      unfold d1
      split <;> split <;> omega
  · rw [decide_eq_false_iff_not] at hs
    refine .pxe (put_tot' _ _ _ _) (fun _ h => ern h) fun _ _ => .pure ⟨Mv.cast (i := nil2) (o := nil2) ⟨rfl, fun _ _ _ => rfl, fun _ _ => Nat.le_add_right _ _, fun _ _ => Nat.zero_le _, fun _ _ => Nat.zero_le _⟩ (fun x y => ?_) fun _ _ => rfl, rfl⟩
    unfold fI; rw [if_neg hs]; rfl
  · exact .bind (Tt.at1 (by omega) (by rw [k1.2]; have : l.1 < _ := hl; omega)) fun x _ => .pure (k1.1.post rfl rfl rfl)
theorem cancel_sp {M : Nat} (s : escrow_State) (t : api_Tx) (h : okI t.Inv) (hb : Bd M s) : Tt (escrow_State_cancel s t) (PxN fun r => Mv M s r (pO s.Side t) nil2) := by
  unfold escrow_State_cancel
  refine .pxe (lock_sp _ _) (fun _ h => .pure h) fun l hl => ?_
  refine .join (D := fun s1 => Mv M s s1 (pO s.Side t) nil2 ∧ s1.Locks = s.Locks) (.ite (fun hs => ?_) fun hs => ?_) fun s1 k1 => ?_
  · rw [decide_eq_true_iff] at hs
    refine .join (D := fun _ => True) (.ite (fun _ => ?_) fun _ => ?_) fun _ _ => ?_
    · exact .pxe (need_sp _ (by decide)) (fun _ h => ern2 h) fun _ _ => .pure trivial
    · exact .bind (signed_tot _ _) fun _ _ => .pxe (need_sp _ (by decide)) (fun _ h => ern2 h) fun _ _ => .pure trivial
    · refine .pxe (put_tot' _ _ _ _) (fun _ h => ern h) fun _ _ => .pure ⟨Mv.cast (i := nil2) (o := nil2) ⟨rfl, fun _ _ _ => rfl, fun _ _ => Nat.le_add_right _ _, fun _ _ => Nat.zero_le _, fun _ _ => Nat.zero_le _⟩ (fun x y => ?_) fun _ _ => rfl, rfl⟩
      unfold pO; rw [if_pos hs]; rfl
  · rw [decide_eq_false_iff_not] at hs
    have h2 : 0 ≤ t.Inv.Send ∧ t.Inv.Send < 2 := ⟨h.send.1, by have := h.send.2; omega⟩
    refine .join (D := fun _ => True) (.ite (fun _ => ?_) fun _ => ?_) fun _ _ => ?_
    · exact .pxe (need_sp _ (by decide)) (fun _ h => ern2 h) fun _ _ => .pure trivial
    · exact .pxe (need_sp _ (by decide)) (fun _ h => ern2 h) fun _ _ => .pure trivial
    · refine .pxe (put_sp _ _ _ _) (fun _ h => ern h) fun r1 a1 => ?_
      refine .pxe (Tt.and (free_tot _ _ h2) (free_sp _ _ h2)) (fun _ h => ern h.2) fun r k => .pure ?_
      obtain ⟨k0, k1, k2, k3, k4⟩ := k
      have hm : V t.Var.Amount ≤ M := Nat.le_trans k3 (hb.held _ h2)
      refine ⟨⟨k1, fun x y hx => ?_, fun y hy => ?_, fun x y => ?_, fun _ _ => Nat.zero_le _⟩, k0.locks⟩
      · rw [k2]
        unfold pO
        rw [if_neg hs]
        exact a1.2 x y hx
      · have := k4 y hy
        dsimp only at this
        omega
      · unfold pO; rw [if_neg hs]; exact d1_le hm
  · exact .bind (Tt.at1 (by omega) (by rw [k1.2]; have : l.1 < _ := hl; omega)) fun x _ => .pure (k1.1.post rfl rfl rfl)
theorem do_sp {M : Nat} (s : escrow_State) (t : api_Tx) (h : okX t) (hb : Bd M s) (hl : s.Locks.length ≤ 1048576) : Tt (escrow_State_do s t) (PxN fun r => Mv M s r (mvI s.Side t) (mvO s.Side t)) := by
  unfold escrow_State_do
  have hi : 4 ≤ t.Kind → okI t.Inv := fun k => Check_okI (h.inv k)
  refine .ite (fun k => ?_) fun k1 => .ite (fun k => ?_) fun k2 => .ite (fun k => ?_) fun k3 => .ite (fun k => ?_) fun k4 => .ite (fun k => ?_) fun k5 => .ite (fun k => ?_) fun k6 => .pure ?_
  · rw [decide_eq_true_iff] at k
    refine .bind (Move_sp _ _ _ _ _) fun r hr => .pxe (check_sp _) (fun _ h => .pure h) fun _ h0 => .pure ?_
    obtain ⟨g1, g2, g3⟩ := hr h0
    have hm : V t.Amount ≤ M := Nat.le_trans g2 (hb.cell _ _ g1)
    refine Mv.cast (i := d1 t.Inv.To t.Asset (V t.Amount)) (o := d1 t.From t.Asset (V t.Amount)) ⟨rfl, fun x y hx => g3 x y hx, fun y hy => Nat.le_add_right _ _, fun _ _ => d1_le hm, fun _ _ => d1_le hm⟩ (fun x y => ?_) fun x y => ?_
    · unfold mvI; rw [if_pos k]
    · unfold mvO; rw [if_pos k]
  · rw [decide_eq_true_iff] at k
    refine .pxe (store_sp _ _ h hb) (fun _ h => .pure h) fun _ hm => .pure (Mv.cast hm (fun x y => ?_) fun x y => ?_)
    · unfold mvI; simp [k]; rfl
    · unfold mvO; simp [k]
  · rw [decide_eq_true_iff] at k
    refine .pxe (draw_sp _ _ h hb) (fun _ h => .pure h) fun _ hm => .pure (Mv.cast hm (fun x y => ?_) fun x y => ?_)
    · unfold mvI; simp [k]
    · unfold mvO; simp [k]; rfl
  · rw [decide_eq_true_iff] at k
    refine .pxe (prepare_sp _ _ (hi (by omega)) hb hl) (fun _ h => .pure h) fun _ hm => .pure (Mv.cast hm (fun x y => ?_) fun x y => ?_)
    · unfold mvI; simp [k]; rfl
    · unfold mvO; simp [k]
  · rw [decide_eq_true_iff] at k
    refine .pxe (fulfil_sp _ _ (hi (by omega)) hb) (fun _ h => .pure h) fun _ hm => .pure (Mv.cast hm (fun x y => ?_) fun x y => ?_)
    · unfold mvI; simp [k]
    · unfold mvO; simp [k]; rfl
  · rw [decide_eq_true_iff] at k
    refine .pxe (cancel_sp _ _ (hi (by omega)) hb) (fun _ h => .pure h) fun _ hm => .pure (Mv.cast hm (fun x y => ?_) fun x y => ?_)
    · unfold mvI; simp [k]
    · unfold mvO; simp [k]; rfl
  · rw [decide_eq_false_iff_not] at k1 k2 k3 k4 k5 k6
    have := h.k
    omega
theorem try_sp {M : Nat} (s : escrow_State) (t : api_Tx) (h : okX t) (hb : Bd M s) (hl : s.Locks.length ≤ 1048576) : Tt (escrow_State_try s t) (fun r => (r.2 = 0 → Mv M s r.1 (mvI s.Side t) (mvO s.Side t)) ∧ (r.2 ≠ 0 → r.1 = s)) := by
  unfold escrow_State_try
  rw [CloneL_val (by omega), Option.bind_some]
  exact .pxe (do_sp _ _ h hb hl) (fun e he => .pure ⟨fun h => absurd h he, fun _ => rfl⟩) fun _ k => .pure ⟨fun _ => k, fun h => absurd rfl h⟩
theorem V_Of1 : V (wide_Of 1) = 1 := by rw [wide_Of_1]; decide
theorem Apply_sp {M : Nat} (s : escrow_State) (t : api_Tx) (hb : Bd M s) (hl : s.Locks.length ≤ 1048576) : Tt (escrow_Apply s t) (fun r => r.2.2 = true → r.1.Side = s.Side ∧ Bd (2 * M) r.1 ∧
    (∀ x y, purse_at x y = true → cel r.1.Purse x y + d1 t.From 0 1 x y + (if r.2.1 = 0 then mvO s.Side t x y else 0) = cel s.Purse x y + (if r.2.1 = 0 then mvI s.Side t x y else 0)) ∧
    (r.2.1 = 0 → ∀ x y, mvI s.Side t x y ≤ M ∧ mvO s.Side t x y ≤ M)) := by
  unfold escrow_Apply
  rw [CloneL_val (by omega), Option.bind_some]
  refine .ite (fun _ => .pure fun h => by simp at h) fun hc => ?_
  have hx := Check_okX (t := t) (by simpa using hc)
  obtain ⟨x, hx8⟩ := a8_at s.Nonces hx.from_
  simp only [hx8, Option.bind_some]
  refine .ite (fun _ => .pure fun h => by simp at h) fun _ => .bind (Take_sp _ _ _ _) fun p hp => .thn (.ite (fun _ => .pure fun h => by simp at h) fun hy => ?_)
  have hp2 : p.2 = 0 := by
    by_cases h : p.2 = 0
    · exact h
    · simp [h] at hy
  obtain ⟨g1, g2⟩ := hp.2 hp2
  rw [V_Of1] at g2
  refine .bind (try_sp (M := M) _ _ hx ⟨fun a b hab => ?_, hb.held⟩ hl) fun r hr => .pure fun _ => ?_
  · have := g2 a b hab
    have := hb.cell a b hab
    dsimp only
    omega
  · dsimp only
    by_cases h0 : r.2 = 0
    · have hm := hr.1 h0
      dsimp only at hm
      refine ⟨hm.side, ⟨fun a b hab => ?_, fun y hy => ?_⟩, fun a b hab => ?_, fun _ a b => ⟨hm.ib a b, hm.ob a b⟩⟩
      · have e1 := hm.cell a b hab
        have e2 := g2 a b hab
        have e3 := hb.cell a b hab
        have e4 := hm.ib a b
        dsimp only at e1
        omega
      · have e1 := hm.held y hy
        have e3 := hb.held y hy
        dsimp only at e1
        omega
      · have e1 := hm.cell a b hab
        have e2 := g2 a b hab
        dsimp only at e1
        rw [if_pos h0, if_pos h0]
        omega
    · have hs := hr.2 h0
      rw [hs]
      dsimp only
      refine ⟨rfl, ⟨fun a b hab => ?_, fun y hy => ?_⟩, fun a b hab => ?_, fun h => absurd h h0⟩
      · have e2 := g2 a b hab
        have e3 := hb.cell a b hab
        dsimp only
        omega
      · have e3 := hb.held y hy
        dsimp only
        omega
      · have e2 := g2 a b hab
        rw [if_neg h0, if_neg h0]
        omega
end Go.Sl
