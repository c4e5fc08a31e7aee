/- A transaction that may be comes to something; sides and times stay. -/
import Derived.Test.YteijfoldbinghaaGreatHpLwSig
set_option linter.unusedVariables false
set_option linter.unusedSimpArgs false
namespace Go.Sl
def PxP {α : Type} (Q : α → Prop) : Px α → Prop
  | .ok y => Q y
  | .er _ => True
/-- Where numbers are in their bounds. -/
structure okX (t : api_Tx) : Prop where
  k : 1 ≤ t.Kind ∧ t.Kind ≤ 6
  from_ : 0 ≤ t.From ∧ t.From < 8
  asset : 0 ≤ t.Asset ∧ t.Asset < 2
  inv : 4 ≤ t.Kind → deal_Check t.Inv = 0
  snd : 4 ≤ t.Kind → deal_Sound t.Var = 0
  route : t.Kind < 4 → txs_route t = 0
theorem Check_okX {t : api_Tx} (h : txs_Check t = 0) : okX t := by
  unfold txs_Check thn at h
  by_cases h1 : t.Kind < 1
  · simp [h1] at h
  by_cases h2 : t.Kind > 6
  · simp [h1, h2] at h
  by_cases f1 : t.From < 0
  · simp [h1, h2, f1] at h
  by_cases f2 : t.From ≥ 8
  · simp [h1, h2, f1, f2] at h
  by_cases n1 : t.Nonce < 0
  · simp [h1, h2, f1, f2, n1] at h
  by_cases n2 : t.Nonce > 1099511627776
  · simp [h1, h2, f1, f2, n1, n2] at h
  by_cases a1 : t.Asset < 0
  · simp [h1, h2, f1, f2, n1, n2, a1] at h
  by_cases a2 : t.Asset ≥ 2
  · simp [h1, h2, f1, f2, n1, n2, a1, a2] at h
  by_cases k4 : t.Kind < 4
  · have hr : txs_route t = 0 := by simpa [h1, h2, f1, f2, n1, n2, a1, a2, k4] using h
    exact ⟨⟨by omega, by omega⟩, ⟨by omega, by omega⟩, ⟨by omega, by omega⟩, fun h => by omega, fun h => by omega, fun _ => hr⟩
  · by_cases d1 : deal_Check t.Inv = 0
    · by_cases d2 : deal_Sound t.Var = 0
      · exact ⟨⟨by omega, by omega⟩, ⟨by omega, by omega⟩, ⟨by omega, by omega⟩, fun _ => d1, fun _ => d2, fun h => by omega⟩
      · simp [h1, h2, f1, f2, n1, n2, a1, a2, k4, d1, d2] at h
    · simp [h1, h2, f1, f2, n1, n2, a1, a2, k4, d1] at h
structure okI (i : api_Inv) : Prop where
  user : 0 ≤ i.User ∧ i.User ≤ 1
  router : 2 ≤ i.Router ∧ i.Router ≤ 3
  send : 0 ≤ i.Send ∧ i.Send ≤ 1
  recv : 0 ≤ i.Recv ∧ i.Recv ≤ 1
  to : 0 ≤ i.To ∧ i.To ≤ 7
theorem in_iff {n a b : Int} : deal_in n a b = true ↔ a ≤ n ∧ n ≤ b := by
  unfold deal_in thn
  by_cases h : n ≥ a
  · simp [h]
  · simp [h]; try omega
theorem Check_okI {i : api_Inv} (h : deal_Check i = 0) : okI i := by
  unfold deal_Check thn at h
  by_cases h1 : deal_in i.User 0 1 = true
  case neg => simp [h1] at h
  by_cases h2 : deal_in i.Router 2 3 = true
  case neg => simp [h1, h2] at h
  by_cases h3 : deal_in i.Send 0 1 = true
  case neg => simp [h1, h2, h3] at h
  by_cases h4 : deal_in i.Recv 0 1 = true
  case neg => simp [h1, h2, h3, h4] at h
  by_cases h5 : deal_in i.To 0 7 = true
  case neg => simp [h1, h2, h3, h4, h5] at h
  exact ⟨in_iff.1 h1, in_iff.1 h2, in_iff.1 h3, in_iff.1 h4, in_iff.1 h5⟩
theorem at_iff {a b : Int} : purse_at a b = true ↔ (0 ≤ a ∧ a < 8) ∧ 0 ≤ b ∧ b < 2 := by
  unfold purse_at thn
  by_cases h1 : a ≥ 0
  case neg => simp [h1]; try omega
  by_cases h2 : a < 8
  case neg => simp [h1, h2]
  by_cases h3 : b ≥ 0
  case neg => simp [h1, h2, h3]; try omega
  simp [h1, h2, h3]; try omega
theorem bk_at (b : purse_Book) {m : Int} (h : 0 ≤ m ∧ m < 8) : ∃ x, at_ (purse_Book.list b) m = some x := at_some h.1 (by simpa [purse_Book.list] using h.2)
theorem a2_at (b : A2_api_Wide) {m : Int} (h : 0 ≤ m ∧ m < 2) : ∃ x, at_ (A2_api_Wide.list b) m = some x := at_some h.1 (by simpa [A2_api_Wide.list] using h.2)
theorem a8_at (b : A8_i64) {m : Int} (h : 0 ≤ m ∧ m < 8) : ∃ x, at_ (A8_i64.list b) m = some x := at_some h.1 (by simpa [A8_i64.list] using h.2)
theorem Take_tot (b : purse_Book) (a s : Int) (w : api_Wide) : Tt (purse_Book_Take b a s w) (fun _ => True) := by
  unfold purse_Book_Take
  refine .ite (fun _ => .pure trivial) fun h => ?_
  have h' : purse_at a s = true := by simpa using h
  obtain ⟨h1, h2⟩ := at_iff.1 h'
  obtain ⟨x, hx⟩ := bk_at b h1
  obtain ⟨y, hy⟩ := a2_at x h2
  simp only [hx, hy, Option.bind_some]
  exact .ite (fun _ => .pure trivial) fun _ => .pure trivial
theorem Give_tot (b : purse_Book) (a s : Int) (w : api_Wide) : Tt (purse_Book_Give b a s w) (fun _ => True) := by
  unfold purse_Book_Give
  refine .ite (fun _ => .pure trivial) fun h => ?_
  have h' : purse_at a s = true := by simpa using h
  obtain ⟨h1, h2⟩ := at_iff.1 h'
  obtain ⟨x, hx⟩ := bk_at b h1
  obtain ⟨y, hy⟩ := a2_at x h2
  simp only [hx, hy, Option.bind_some]
  exact .ite (fun _ => .pure trivial) fun _ => .pure trivial
theorem Move_tot (b : purse_Book) (a c s : Int) (w : api_Wide) : Tt (purse_Book_Move b a c s w) (fun _ => True) := by
  unfold purse_Book_Move
  refine .bind (Take_tot _ _ _ _) fun _ _ => .ite (fun _ => .pure trivial) fun _ => ?_
  exact .bind (Give_tot _ _ _ _) fun _ _ => .ite (fun _ => .pure trivial) fun _ => .pure trivial
theorem check_tot (e : Int) : Tt (escrow_check e) (fun r => match r with | .ok _ => e = 0 | .er x => x = e ∧ e ≠ 0) := by
  unfold escrow_check
  refine .ite (fun h => .pure ⟨rfl, by simpa using h⟩) fun h => .pure ?_
  simpa using h
theorem need_tot (b : Bool) (e : Int) : Tt (escrow_need b e) (fun r => match r with | .ok _ => b = true | .er x => x = e ∧ b = false) := by
  unfold escrow_need
  refine .ite (fun h => .pure ⟨rfl, by simpa using h⟩) fun h => .pure ?_
  simpa using h
theorem take_tot (b : purse_Book) (a s : Int) (w : api_Wide) : Tt (escrow_take_int b a s w) (fun _ => True) := by
  unfold escrow_take_int
  exact .bind (Take_tot _ _ _ _) fun _ _ => .pxe (check_tot _) (fun _ _ => .pure trivial) fun _ _ => .pure trivial
theorem put_tot (b : purse_Book) (a s : Int) (w : api_Wide) : Tt (escrow_put_int b a s w) (fun _ => True) := by
  unfold escrow_put_int
  exact .bind (Give_tot _ _ _ _) fun _ _ => .pxe (check_tot _) (fun _ _ => .pure trivial) fun _ _ => .pure trivial
/-- What stays. -/
structure Kp (s s' : escrow_State) : Prop where
  side : s'.Side = s.Side
  time : s'.Time = s.Time
  nonces : s'.Nonces = s.Nonces
  burnt : s'.Burnt = s.Burnt
  locks : s'.Locks = s.Locks
theorem Kp.refl (s : escrow_State) : Kp s s := ⟨rfl, rfl, rfl, rfl, rfl⟩
theorem Kp.trans {a b c : escrow_State} (h : Kp a b) (k : Kp b c) : Kp a c := ⟨k.side.trans h.side, k.time.trans h.time, k.nonces.trans h.nonces, k.burnt.trans h.burnt, k.locks.trans h.locks⟩
theorem hold_tot (s : escrow_State) {a : Int} (w : api_Wide) (h : 0 ≤ a ∧ a < 2) : Tt (escrow_State_hold s a w) (PxP (Kp s)) := by
  unfold escrow_State_hold
  obtain ⟨x, hx⟩ := a2_at s.Held h
  simp only [hx, Option.bind_some]
  exact .pxe (need_tot _ _) (fun _ _ => .pure trivial) fun _ _ => .pure ⟨rfl, rfl, rfl, rfl, rfl⟩
theorem free_tot (s : escrow_State) {a : Int} (w : api_Wide) (h : 0 ≤ a ∧ a < 2) : Tt (escrow_State_free s a w) (PxP (Kp s)) := by
  unfold escrow_State_free
  obtain ⟨x, hx⟩ := a2_at s.Held h
  simp only [hx, Option.bind_some]
  exact .pxe (need_tot _ _) (fun _ _ => .pure trivial) fun _ _ => .pure ⟨rfl, rfl, rfl, rfl, rfl⟩
theorem vault_tot (s : escrow_State) (r a : Int) (w : api_Wide) : Tt (escrow_State_vault s r a w) (PxP (Kp s)) := by
  unfold escrow_State_vault
  exact .bind (Take_tot _ _ _ _) fun _ _ => .pxe (need_tot _ _) (fun _ _ => .pure trivial) fun _ _ => .pure ⟨rfl, rfl, rfl, rfl, rfl⟩
theorem store_tot (s : escrow_State) (t : api_Tx) (h : okX t) : Tt (escrow_State_store s t) (PxP (Kp s)) := by
  unfold escrow_State_store
  refine .pxe (take_tot _ _ _ _) (fun _ _ => .pure trivial) fun _ _ => .pxe (put_tot _ _ _ _) (fun _ _ => .pure trivial) fun _ _ => ?_
  exact .pxe (hold_tot _ _ h.asset) (fun _ _ => .pure trivial) fun _ hk => .pure ⟨hk.side, hk.time, hk.nonces, hk.burnt, hk.locks⟩
theorem draw_tot (s : escrow_State) (t : api_Tx) (h : okX t) : Tt (escrow_State_draw s t) (PxP (Kp s)) := by
  unfold escrow_State_draw
  refine .join (D := fun _ => True) (.ite (fun _ => ?_) fun _ => ?_) fun _ _ => ?_
  · exact .pxe (need_tot _ _) (fun _ _ => .map (.pure (Q := PxP (Kp s)) trivial) fun _ h => h) fun _ _ => .pure trivial
  · exact .pxe (need_tot _ _) (fun _ _ => .map (.pure (Q := PxP (Kp s)) trivial) fun _ h => h) fun _ _ => .pure trivial
  · refine .pxe (vault_tot _ _ _ _) (fun _ _ => .pure trivial) fun s1 k1 => .pxe (put_tot _ _ _ _) (fun _ _ => .pure trivial) fun _ _ => ?_
    exact .pxe (free_tot _ _ h.asset) (fun _ _ => .pure trivial) fun _ hk => .pure (k1.trans ⟨hk.side, hk.time, hk.nonces, hk.burnt, hk.locks⟩)
theorem place_tot (s : escrow_State) (k : ByteArray) : Tt (escrow_State_place s k) (fun r => r < s.Locks.length) := by
  unfold escrow_State_place slices_IndexFunc_escrow_Lock_escrow_State_place_1
  refine .bind (P := fun r : Int => r < s.Locks.length) ?_ fun _ h => .pure (Q := fun r : Int => r < s.Locks.length) h
  refine Tt.loopR (S := fun r : Int => r < s.Locks.length) (fun _ _ => True) trivial (fun i x _ hx _ => .ite (fun _ => .map (.pure (Q := fun r : Int => r < s.Locks.length) ?_) fun _ h => h) fun _ => .pure trivial) fun _ _ => .pure (Q := fun r : Int => r < s.Locks.length) (by omega)
  have := (List.getElem?_eq_some_iff.1 hx).1
  omega
/-- What stays where a lock is turned or made. -/
structure Kl (n : Nat) (s s' : escrow_State) : Prop where
  side : s'.Side = s.Side
  time : s'.Time = s.Time
  nonces : s'.Nonces = s.Nonces
  burnt : s'.Burnt = s.Burnt
  locks : s'.Locks.length ≤ s.Locks.length + n
theorem Kp.kl {s s' : escrow_State} (h : Kp s s') : Kl 1 s s' := ⟨h.side, h.time, h.nonces, h.burnt, by rw [h.locks]; omega⟩
theorem prepare_tot (s : escrow_State) (t : api_Tx) (h : okI t.Inv) (hl : s.Locks.length ≤ 1048576) : Tt (escrow_State_prepare s t) (PxP (Kl 1 s)) := by
  unfold escrow_State_prepare
  refine .bind (Key_spec _) fun k _ => .bind (place_tot _ _) fun i _ => .pxe (need_tot _ _) (fun _ _ => .pure trivial) fun _ _ => ?_
  refine .join (D := fun _ => True) (.ite (fun _ => ?_) fun _ => ?_) fun _ _ => ?_
  · exact .pxe (need_tot _ _) (fun _ _ => .map (.pure (Q := PxP (Kl 1 s)) trivial) fun _ h => h) fun _ _ => .pure trivial
  · exact .pxe (need_tot _ _) (fun _ _ => .map (.pure (Q := PxP (Kl 1 s)) trivial) fun _ h => h) fun _ _ => .pure trivial
  · refine .join (D := Kp s) (.ite (fun _ => ?_) fun _ => ?_) fun s1 k1 => ?_
    · refine .pxe (need_tot _ _) (fun _ _ => .map (.pure (Q := PxP (Kl 1 s)) trivial) fun _ h => h) fun _ _ => ?_
      exact .pxe (vault_tot _ _ _ _) (fun _ _ => .map (.pure (Q := PxP (Kl 1 s)) trivial) fun _ h => h) fun _ k => .pure k
    · refine .pxe (need_tot _ _) (fun _ _ => .map (.pure (Q := PxP (Kl 1 s)) trivial) fun _ h => h) fun _ _ => ?_
      refine .pxe (take_tot _ _ _ _) (fun _ _ => .map (.pure (Q := PxP (Kl 1 s)) trivial) fun _ h => h) fun _ _ => ?_
      exact .pxe (hold_tot _ _ ⟨h.send.1, by have := h.send.2; omega⟩) (fun _ _ => .map (.pure (Q := PxP (Kl 1 s)) trivial) fun _ h => h) fun _ k => .pure ⟨k.side, k.time, k.nonces, k.burnt, k.locks⟩
    · refine .bind (Digest_spec _ _) fun d _ => .grd (by rw [k1.locks]; simp; omega) (.pure ⟨k1.side, k1.time, k1.nonces, k1.burnt, ?_⟩)
      simp [k1.locks]
theorem lock_tot (s : escrow_State) (t : api_Tx) : Tt (escrow_State_lock s t) (PxP fun r => r.1 < s.Locks.length ∧ s.Locks[r.1]? = some r.2) := by
  unfold escrow_State_lock
  refine .bind (Key_spec _) fun k _ => .bind (place_tot _ _) fun i hi => ?_
  refine .join (D := fun _ => 0 ≤ i) (.ite (fun h => ?_) fun _ => ?_) fun _ h0 => ?_
  · rw [decide_eq_true_iff] at h
    refine .bind (Tt.at1 (by omega) hi) fun x _ => ?_
    exact .pxe (need_tot _ _) (fun _ _ => .map (.pure (Q := PxP _) trivial) fun _ h => h) fun _ _ => .pure h
  · refine .pxe (need_tot _ _) (fun _ _ => .map (.pure (Q := PxP _) trivial) fun _ h => h) fun _ hf => ?_
    simp at hf
  · refine .bind (Tt.at1 h0 hi) fun x _ => .bind (Digest_spec _ _) fun d _ => .pxe (need_tot _ _) (fun _ _ => .pure trivial) fun _ _ => ?_
    exact .bind (Tt.at_ h0 hi fun x hx => hx) fun y hy => .pure ⟨by omega, hy⟩
theorem signed_tot (t : api_Tx) (a : Int) : Tt (escrow_signed t a) (fun _ => True) := by
  unfold escrow_signed
  refine .bind (Key_spec _) fun k hk => .bind (Payload_spec a k t.Fee (by omega)) fun p hp => ?_
  obtain ⟨r, hr⟩ := Verify_spec t.Inv.Root (t := p) t.Sig (by omega)
  rw [hr, Option.bind_some]
  exact .pure trivial
theorem fulfil_tot (s : escrow_State) (t : api_Tx) (h : okI t.Inv) : Tt (escrow_State_fulfil s t) (PxP (Kl 0 s)) := by
  unfold escrow_State_fulfil
  refine .pxe (lock_tot _ _) (fun _ _ => .pure trivial) fun l hl => .pxe (need_tot _ _) (fun _ _ => .pure trivial) fun _ _ => .pxe (need_tot _ _) (fun _ _ => .pure trivial) fun _ _ => ?_
  refine .bind (signed_tot _ _) fun b _ => .pxe (need_tot _ _) (fun _ _ => .pure trivial) fun _ _ => ?_
  refine .join (D := Kp s) (.ite (fun _ => ?_) fun _ => ?_) fun s1 k1 => ?_
  · refine .pxe (put_tot _ _ _ _) (fun _ _ => .map (.pure (Q := PxP (Kl 0 s)) trivial) fun _ h => h) fun _ _ => .pxe (put_tot _ _ _ _) (fun _ _ => .map (.pure (Q := PxP (Kl 0 s)) trivial) fun _ h => h) fun _ _ => ?_
    exact .pxe (free_tot _ _ ⟨h.recv.1, by have := h.recv.2; omega⟩) (fun _ _ => .map (.pure (Q := PxP (Kl 0 s)) trivial) fun _ h => h) fun _ k => .pure ⟨k.side, k.time, k.nonces, k.burnt, k.locks⟩
  · exact .pxe (put_tot _ _ _ _) (fun _ _ => .map (.pure (Q := PxP (Kl 0 s)) trivial) fun _ h => h) fun _ _ => .pure ⟨rfl, rfl, rfl, rfl, rfl⟩
  · refine .bind (Tt.at1 (by omega) (by rw [k1.locks]; have := hl.1; omega)) fun x _ => .pure ⟨k1.side, k1.time, k1.nonces, k1.burnt, ?_⟩
    simp [k1.locks]
theorem cancel_tot (s : escrow_State) (t : api_Tx) (h : okI t.Inv) : Tt (escrow_State_cancel s t) (PxP (Kl 0 s)) := by
  unfold escrow_State_cancel
  refine .pxe (lock_tot _ _) (fun _ _ => .pure trivial) fun l hl => ?_
  have er2 : ∀ e, Tt (Option.map (Lo.rt (σ := Unit)) (Option.map (Lo.rt (σ := escrow_State)) (some (Px.er e : Px escrow_State)))) (LoP (fun _ => True) (LoP (Kp s) (PxP (Kl 0 s)))) := fun e => ⟨_, rfl, trivial⟩
  have er1 : ∀ e, Tt (Option.map (Lo.rt (σ := escrow_State)) (some (Px.er e : Px escrow_State))) (LoP (Kp s) (PxP (Kl 0 s))) := fun e => ⟨_, rfl, trivial⟩
  refine .join (D := Kp s) (.ite (fun _ => ?_) fun _ => ?_) fun s1 k1 => ?_
  · refine .join (D := fun _ => True) (.ite (fun _ => ?_) fun _ => ?_) fun _ _ => ?_
    · exact .pxe (need_tot _ _) (fun _ _ => er2 _) fun _ _ => .pure trivial
    · exact .bind (signed_tot _ _) fun _ _ => .pxe (need_tot _ _) (fun _ _ => er2 _) fun _ _ => .pure trivial
    · exact .pxe (put_tot _ _ _ _) (fun _ _ => er1 _) fun _ _ => .pure ⟨rfl, rfl, rfl, rfl, rfl⟩
  · refine .join (D := fun _ => True) (.ite (fun _ => ?_) fun _ => ?_) fun _ _ => ?_
    · exact .pxe (need_tot _ _) (fun _ _ => er2 _) fun _ _ => .pure trivial
    · exact .pxe (need_tot _ _) (fun _ _ => er2 _) fun _ _ => .pure trivial
    · refine .pxe (put_tot _ _ _ _) (fun _ _ => er1 _) fun _ _ => ?_
      exact .pxe (free_tot _ _ ⟨h.send.1, by have := h.send.2; omega⟩) (fun _ _ => er1 _) fun _ k => .pure ⟨k.side, k.time, k.nonces, k.burnt, k.locks⟩
  · refine .bind (Tt.at1 (by omega) (by rw [k1.locks]; have := hl.1; omega)) fun x _ => .pure ⟨k1.side, k1.time, k1.nonces, k1.burnt, ?_⟩
    simp [k1.locks]
theorem Kl.up {s s' : escrow_State} (h : Kl 0 s s') : Kl 1 s s' := ⟨h.side, h.time, h.nonces, h.burnt, by have := h.locks; omega⟩
theorem do_tot (s : escrow_State) (t : api_Tx) (h : okX t) (hl : s.Locks.length ≤ 1048576) : Tt (escrow_State_do s t) (PxP (Kl 1 s)) := by
  unfold escrow_State_do
  have hi : 4 ≤ t.Kind → okI t.Inv := fun k => Check_okI (h.inv k)
  refine .ite (fun _ => ?_) fun _ => .ite (fun _ => ?_) fun _ => .ite (fun _ => ?_) fun _ => .ite (fun k => ?_) fun _ => .ite (fun k => ?_) fun _ => .ite (fun k => ?_) fun _ => .pure (Kp.refl s).kl
  · exact .bind (Move_tot _ _ _ _ _) fun _ _ => .pxe (check_tot _) (fun _ _ => .pure trivial) fun _ _ => .pure ⟨rfl, rfl, rfl, rfl, by simp⟩
  · exact .pxe (store_tot _ _ h) (fun _ _ => .pure trivial) fun _ k => .pure k.kl
  · exact .pxe (draw_tot _ _ h) (fun _ _ => .pure trivial) fun _ k => .pure k.kl
  · rw [decide_eq_true_iff] at k; exact .pxe (prepare_tot _ _ (hi (by omega)) hl) (fun _ _ => .pure trivial) fun _ k => .pure k
  · rw [decide_eq_true_iff] at k; exact .pxe (fulfil_tot _ _ (hi (by omega))) (fun _ _ => .pure trivial) fun _ k => .pure k.up
  · rw [decide_eq_true_iff] at k; exact .pxe (cancel_tot _ _ (hi (by omega))) (fun _ _ => .pure trivial) fun _ k => .pure k.up
theorem CloneL_val {l : List escrow_Lock} (h : l.length ≤ 1048577) : slices_Clone_escrow_Lock l = some l := by
  unfold slices_Clone_escrow_Lock
  rw [grd_pos (by simp; omega)]
  rfl
theorem try_tot (s : escrow_State) (t : api_Tx) (h : okX t) (hl : s.Locks.length ≤ 1048576) : Tt (escrow_State_try s t) (fun r => Kl 1 s r.1) := by
  unfold escrow_State_try
  rw [CloneL_val (by omega), Option.bind_some]
  exact .pxe (do_tot _ _ h hl) (fun _ _ => .pure (Kp.refl s).kl) fun _ k => .pure ⟨k.side, k.time, k.nonces, k.burnt, k.locks⟩
theorem Apply_tot (s : escrow_State) (t : api_Tx) (hl : s.Locks.length ≤ 1048576) : Tt (escrow_Apply s t) (fun r => r.1.Side = s.Side ∧ r.1.Time = s.Time ∧ r.1.Locks.length ≤ s.Locks.length + 1 ∧ (r.2.2 = false → r.1 = s)) := by
  unfold escrow_Apply
  rw [CloneL_val (by omega), Option.bind_some]
  refine .ite (fun _ => .pure ⟨rfl, rfl, by simp, fun _ => rfl⟩) fun hc => ?_
  have hx := Check_okX (t := t) (by simpa using hc)
  obtain ⟨x, hx8⟩ := a8_at s.Nonces hx.from_
  simp only [hx8, Option.bind_some]
  refine .ite (fun _ => .pure ⟨rfl, rfl, by simp, fun _ => rfl⟩) fun _ => .bind (Take_tot _ _ _ _) fun p _ => .thn (.ite (fun _ => .pure ⟨rfl, rfl, by simp, fun _ => rfl⟩) fun _ => ?_)
  exact .bind (try_tot _ _ hx hl) fun r k => .pure ⟨k.side, k.time, k.locks, fun h => by simp at h⟩
/-- Time goes on, as far as it may. -/
def upT (time ticks : Int) : Int := time + min (max ticks 0) (max (1099511627776 - time) 0)
theorem Rise_val {s : escrow_State} {k : Int} (h0 : 0 ≤ s.Time) (h1 : s.Time ≤ 1099511627776) (hl : s.Locks.length ≤ 1048577) : escrow_Rise s k = some { s with Time := upT s.Time k } := by
  unfold escrow_Rise
  rw [CloneL_val (by omega), Option.bind_some]
  have e1 : IntKind.i64.wrap (1099511627776 - s.Time) = 1099511627776 - s.Time := wrap64 (by omega) (by omega)
  rw [e1]
  obtain ⟨m, hm⟩ : ∃ m, (if (if 0 > 1099511627776 - s.Time then 0 else 1099511627776 - s.Time) < (if 0 > k then 0 else k) then (if 0 > 1099511627776 - s.Time then 0 else 1099511627776 - s.Time) else (if 0 > k then 0 else k)) = m := ⟨_, rfl⟩
  have hm2 : m = min (max k 0) (max (1099511627776 - s.Time) 0) := by rw [← hm]; split <;> split <;> (try split) <;> omega
  rw [hm, wrap64 (by omega) (by omega), hm2]
  rfl
theorem upT_le {t k : Int} (h : t ≤ 1099511627776) : t ≤ upT t k ∧ upT t k ≤ 1099511627776 := by unfold upT; omega
end Go.Sl
