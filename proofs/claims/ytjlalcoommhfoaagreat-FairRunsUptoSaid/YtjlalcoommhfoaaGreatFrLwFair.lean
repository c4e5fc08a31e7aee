/- Rounds of a world where nothing is on its way: time goes on, nothing else. -/
import Derived.Test.YtjlalcoommhfoaaGreatFrLwNewF
set_option linter.unusedVariables false
set_option linter.unusedSimpArgs false
namespace Go.Sl
theorem clone_lock {l : List escrow_Lock} (h : l.length ≤ 1000) : slices_Clone_escrow_Lock l = some l := by
  unfold slices_Clone_escrow_Lock
  rw [grd_pos (by simp; omega)]
  rfl
theorem clone_ev {l : List api_Event} (h : l.length ≤ 1000) : slices_Clone_api_Event l = some l := by
  unfold slices_Clone_api_Event
  rw [grd_pos (by simp; omega)]
  rfl
theorem clone_tx {l : List api_Tx} (h : l.length ≤ 1000) : slices_Clone_api_Tx l = some l := by
  unfold slices_Clone_api_Tx
  rw [grd_pos (by simp; omega)]
  rfl
theorem is_some {c : chain_Chain} : chain_Chain_is_bx (some c) = some c.made := by unfold chain_Chain_is_bx; rfl
theorem rise_ok {o : Option chain_Chain} {T : Int} (h : IdleS o T) (h0 : 0 ≤ T) (h1 : T ≤ 1000000) : Tt (chain_Chain_Rise_bx o 1) (fun r => IdleS r (T + 1) ∧ ∀ c, r = some c → ∀ d, o = some d → c.events = d.events) := by
  obtain ⟨c, rfl, hT, hl, hp, hm⟩ := h
  unfold chain_Chain_Rise_bx escrow_Rise
  rw [is_some, Option.bind_some, hm, if_pos rfl, Option.bind_some, clone_lock (by omega), Option.bind_some, Option.bind_some]
  refine .pure ⟨⟨_, rfl, ?_, hl, hp, hm⟩, fun c hc d hd => by cases hc; cases hd; rfl⟩
  dsimp only
  rw [hT, wrap64 (n := 1099511627776 - T) (by omega) (by omega), if_neg (show ¬ (0 : Int) > 1 by omega), if_neg (show ¬ (0 : Int) > 1099511627776 - T by omega), if_neg (show ¬ (1099511627776 - T < 1) by omega), wrap64 (by omega) (by omega)]
theorem time_ok {o : Option chain_Chain} {T : Int} (h : IdleS o T) : chain_Chain_Time_bx o = some T := by
  obtain ⟨c, rfl, hT, hl, hp, hm⟩ := h
  unfold chain_Chain_Time_bx
  rw [is_some, Option.bind_some, hm, if_neg (by simp), Option.bind_some, hT]
theorem pool_ok {o : Option chain_Chain} {T : Int} (h : IdleS o T) : chain_Chain_Pool_bx o = some [] := by
  obtain ⟨c, rfl, hT, hl, hp, hm⟩ := h
  unfold chain_Chain_Pool_bx
  rw [is_some, Option.bind_some, hm, if_neg (by simp), Option.bind_some, clone_tx (by omega), Option.bind_some, List.eq_nil_of_length_eq_zero hp]
theorem events_ok {o : Option chain_Chain} {T : Int} (h : IdleS o T) (he : ∀ c, o = some c → c.events.length = 0) : chain_Chain_Events_bx o 0 = some [] := by
  obtain ⟨c, rfl, hT, hl, hp, hm⟩ := h
  have he := List.eq_nil_of_length_eq_zero (he c rfl)
  unfold chain_Chain_Events_bx
  rw [is_some, Option.bind_some, hm, if_neg (by simp), Option.bind_some, he]
  have hm : (if ((([] : List api_Event).length : Nat) : Int) < (if (0 : Int) > 0 then 0 else 0) then ((([] : List api_Event).length : Nat) : Int) else if (0 : Int) > 0 then 0 else 0) = 0 := by decide
  rw [hm, grd_pos (by unfold okS; decide), clone_ev (by decide), Option.bind_some]
  rfl
/-! ### Who is there looks, and finds nothing -/
theorem dis {d : Option disk_Disk} (h : IdleD d) : disk_Disk_is_bx d = some true := by
  obtain ⟨x, rfl, hb, h0, h1, hm⟩ := h
  unfold disk_Disk_is_bx
  rw [if_pos (show (some x).isSome = true from rfl), Option.bind_some, Option.bind_some, hm]
theorem write_ok {d : Option disk_Disk} (h : IdleD d) : Tt (disk_Disk_Write_bx d []) (fun r => r.1 = 0 ∧ IdleD r.2) := by
  have hi := dis h
  obtain ⟨x, rfl, hb, h0, h1, hm⟩ := h
  unfold disk_Disk_Write_bx
  rw [hi, Option.bind_some, if_neg (by decide), Option.bind_some, hb]
  have hw : IntKind.i64.wrap (x.room - ((([] : List UInt8).length : Nat) : Int)) = x.room := by
    rw [show x.room - ((([] : List UInt8).length : Nat) : Int) = x.room by simp]
    exact wrap64 (by omega) (by omega)
  rw [hw, if_neg (by simp; omega)]
  refine .grd (by decide) (.pure ⟨rfl, _, rfl, rfl, h0, h1, hm⟩)
theorem append_ok {d : Option disk_Disk} (h : IdleD d) : Tt (journal_Append_bx_n0 d) (fun r => r.1 = 0 ∧ IdleD r.2) := by
  unfold journal_Append_bx_n0
  refine .bind (write_ok h) fun r hr => .ite (fun c => by rw [hr.1] at c; cases c) fun _ => .bind (write_ok hr.2) fun q hq => .pure hq
theorem sync_ok {d : Option disk_Disk} (h : IdleD d) : Tt (disk_Disk_Sync_bx d) (fun r => IdleD r.2) := by
  have hi := dis h
  obtain ⟨x, rfl, hb, h0, h1, hm⟩ := h
  unfold disk_Disk_Sync_bx disk_Disk_Fresh_bx
  rw [hi, Option.bind_some, if_neg (by decide), Option.bind_some, Option.bind_some, Option.bind_some, if_pos rfl, Option.bind_some, Option.bind_some]
  exact .pure ⟨_, rfl, hb, h0, h1, hm⟩
theorem up_none : client_Client_up_bx none = some 9 := by kernel_rfl
theorem up_ok {c : client_Client} (h : IdleC (some c)) : client_Client_up_bx (some c) = some 0 := by
  obtain ⟨h1, h2, _⟩ := h c rfl
  unfold client_Client_up_bx
  rw [if_neg (by simp), Option.bind_some, Option.bind_some, h1, if_neg (by decide), Option.bind_some, h2, if_neg (by decide)]
theorem down_ok {o : Option client_Client} (h : IdleC o) : client_Client_Down_bx o = some o.isNone := by
  unfold client_Client_Down_bx
  cases o with
  | none => rw [up_none]; rfl
  | some c => rw [up_ok h]; rfl
theorem asks_ok {o : Option auction_Room} : auction_Room_Asks_bx o = some [] := by
  unfold auction_Room_Asks_bx
  cases o <;> rfl
theorem look_c {o : Option client_Client} {a b : Option chain_Chain} {T : Int} (h : IdleC o) (ha : IdleS a T) : Tt (client_Client_Look_bx_bx_bx o a b) (fun r => r.1 = [] ∧ r.2.1 = [] ∧ IdleC r.2.2) := by
  unfold client_Client_Look_bx_bx_bx
  cases o with
  | none =>
    rw [up_none, Option.bind_some, if_pos (by decide)]
    exact .pure ⟨rfl, rfl, h⟩
  | some c =>
    rw [up_ok h, Option.bind_some, if_neg (by decide)]
    obtain ⟨h1, h2, h3⟩ := h c rfl
    refine .bind (P := fun r => r.1.mail = [] ∧ r.1.sends = [] ∧ r.2.1 = 0 ∧ ∃ c', r.2.2 = some c' ∧ c'.made = true ∧ c'.down = false ∧ IdleD c'.disk) ?_ fun r hr => ?_
    · unfold client_Client_look_bx_bx_bx client_Client_choose
      rw [Option.bind_some, time_ok ha, Option.bind_some, asks_ok, Option.bind_some, if_neg (by decide), Option.bind_some]
      exact .bind (append_ok h3) fun q hq => .pure ⟨rfl, rfl, hq.1, _, rfl, h1, h2, hq.2⟩
    · obtain ⟨e1, e2, e3, c', e4, h1, h2, h3⟩ := hr
      rw [if_neg (by rw [e3]; decide), e4, Option.bind_some]
      refine .bind (sync_ok h3) fun q hq => .pure ⟨e1, e2, fun d hd => ?_⟩
      cases hd
      exact ⟨h1, h2, hq⟩
theorem rdown_none : router_Router_Down_bx none = some true := by kernel_rfl
theorem rdown_ok {o : Option router_Router} (h : IdleR o) : router_Router_Down_bx o = some o.isNone := by
  cases o with
  | none => exact rdown_none
  | some c =>
    obtain ⟨h1, h2, _⟩ := h c rfl
    unfold router_Router_Down_bx
    rw [if_neg (by simp), Option.bind_some, h1, if_neg (by decide), Option.bind_some, h2]
    rfl
theorem deals_ok : scan_Deals [] = some [] := by kernel_rfl
theorem look_r {o : Option router_Router} {a b : Option chain_Chain} {T : Int} (h : IdleR o) (ha : IdleS a T) (he : ∀ c, a = some c → c.events.length = 0) : Tt (router_Router_Look_bx_bx_bx o a b) (fun r => r.1 = [] ∧ r.2.1 = [] ∧ IdleR r.2.2) := by
  unfold router_Router_Look_bx_bx_bx
  cases o with
  | none =>
    rw [rdown_none, Option.bind_some, if_pos rfl]
    exact .pure ⟨rfl, rfl, h⟩
  | some c =>
    rw [rdown_ok h, Option.bind_some, if_neg (by simp)]
    obtain ⟨h1, h2, h4, h3⟩ := h c rfl
    refine .bind (P := fun r => r.1.mail = [] ∧ r.1.sends = [] ∧ r.2.1 = 0 ∧ ∃ c', r.2.2 = some c' ∧ c'.made = true ∧ c'.down = false ∧ c'.asks = [] ∧ IdleD c'.disk) ?_ fun r hr => ?_
    · unfold router_Router_look_bx_bx_bx
      rw [Option.bind_some, h4, if_neg (by decide), events_ok ha he, Option.bind_some, deals_ok, Option.bind_some, if_neg (by decide)]
      exact .bind (append_ok h3) fun q hq => .pure ⟨rfl, rfl, hq.1, _, rfl, h1, h2, rfl, hq.2⟩
    · obtain ⟨e1, e2, e3, c', e4, h1, h2, h4, h3⟩ := hr
      rw [if_neg (by rw [e3]; decide), e4, Option.bind_some]
      refine .bind (sync_ok h3) fun q hq => .pure ⟨e1, e2, fun d hd => ?_⟩
      cases hd
      exact ⟨h1, h2, h4, hq⟩
theorem look_l {o : Option relay_Relay} {a : Option chain_Chain} (h : IdleL o) : relay_Relay_Look_bx_bx o a = some [] := by
  unfold relay_Relay_Look_bx_bx
  cases o with
  | none => rfl
  | some c => rw [if_neg (by simp), Option.bind_some, h c rfl, if_neg (by decide)]
theorem send_ok {W : world_World} {n : Int} : world_World_send W n [] = some () := by unfold world_World_send; rw [if_neg (by decide)]
section
variable {s : world_Setup} {k : Nat} {W : world_World} {n : Int}
theorem atA {y : A4_i64} (h0 : 0 ≤ n) (h1 : n < 4) : Tt (at_ (A4_i64.list y) n) (fun _ => True) := .at_ h0 h1 fun _ _ => trivial
theorem atB {y : A4_bool} (h0 : 0 ≤ n) (h1 : n < 4) : Tt (at_ (A4_bool.list y) n) (fun _ => True) := .at_ h0 h1 fun _ _ => trivial
theorem client_val (h0 : 0 ≤ n) (h1 : n < 5) : Tt (world_World_client W n) (fun r => r = 0 ∨ r = 1 ∧ n < 4 ∨ r = 2 ∧ n < 4) := by
  unfold world_World_client
  refine .thn' fun y hy => .ite (fun _ => .pure (.inl rfl)) fun hf => ?_
  refine .ite (fun hc => .pure (.inr (.inl ⟨rfl, ?_⟩))) fun _ => .ite (fun hc => .pure (.inr (.inr ⟨rfl, ?_⟩))) fun hc2 => ?_
  · have := of_decide_eq_true hc; omega
  · have := of_decide_eq_true hc; omega
  · subst hf
    rename_i hc1
    have a1 := of_decide_eq_false hc1
    have a2 := of_decide_eq_false hc2
    rw [if_neg (by simp; omega)] at hy
    have := of_decide_eq_false hy
    omega
theorem router_val (h0 : 0 ≤ n) (h1 : n < 5) : Tt (world_World_router W n) (fun r => r = 0 ∨ r = 1 ∧ n < 4 ∨ r = 2 ∧ n < 4) := by
  unfold world_World_router
  have hw : 2 ≤ n → IntKind.i64.wrap (n - 2) = n - 2 := fun _ => wrap64 (by omega) (by omega)
  refine .thn' fun y hy => .ite (fun _ => .pure (.inl rfl)) fun hf => ?_
  subst hf
  have h2 : 2 ≤ n ∧ n < 4 := by
    by_cases h : n < 2
    · rw [if_pos (by simpa using h)] at hy; cases hy
    · rw [if_neg (by simpa using h)] at hy
      have := of_decide_eq_false hy
      omega
  refine .ite (fun hc => .pure (.inr (.inl ⟨rfl, h2.2⟩))) fun hc1 => .ite (fun hc => .pure (.inr (.inr ⟨rfl, h2.2⟩))) fun hc2 => ?_
  have a1 := of_decide_eq_false hc1
  have a2 := of_decide_eq_false hc2
  rw [hw h2.1] at a1 a2
  omega
theorem look_ok (h : Idle s k W) (h0 : 0 ≤ n) (h1 : n < 5) : Tt (world_World_look_bx (some W) n) (fun r => ∃ W', r = some W' ∧ Idle s k W') := by
  unfold world_World_look_bx
  rw [Option.bind_some]
  refine .bind (P := Idle s k) ?_ fun W1 hW => ?_
  · refine .bind (client_val h0 h1) fun r hr => .ite (fun c => ?_) fun c => ?_
    · rw [down_ok idleC0, Option.bind_some, if_neg (by decide)]; exact .pure h
    have hr := hr.resolve_left (of_decide_eq_false c)
    have h4 : n < 4 := by rcases hr with a | a <;> exact a.2
    refine .ite (fun c => ?_) fun c => ?_
    · rw [down_ok h.k0, Option.bind_some]
      refine .ite (fun _ => ?_) fun _ => .pure h
      refine .bind (atA h0 h4) fun _ _ => .bind (look_c h.k0 h.s0) fun r hr => ?_
      obtain ⟨e1, e2, hk⟩ := hr
      rw [e1, e2, if_neg (by decide), if_neg (by decide), send_ok, Option.bind_some]
      refine .bind (atB h0 h4) fun b _ => .ite (fun _ => .bind (atB h0 h4) fun _ _ => .pure ⟨h.setup, h.s0, h.s1, h.e0, hk, h.k1, h.r0, h.r1, h.l, h.now, h.since⟩) fun _ => ?_
      rw [down_ok hk, Option.bind_some]
      exact .bind (atB h0 h4) fun _ _ => .pure ⟨h.setup, h.s0, h.s1, h.e0, hk, h.k1, h.r0, h.r1, h.l, h.now, h.since⟩
    · rw [down_ok h.k1, Option.bind_some]
      refine .ite (fun _ => ?_) fun _ => .pure h
      refine .bind (atA h0 h4) fun _ _ => .bind (look_c h.k1 h.s0) fun r hr => ?_
      obtain ⟨e1, e2, hk⟩ := hr
      rw [e1, e2, if_neg (by decide), if_neg (by decide), send_ok, Option.bind_some]
      refine .bind (atB h0 h4) fun b _ => .ite (fun _ => .bind (atB h0 h4) fun _ _ => .pure ⟨h.setup, h.s0, h.s1, h.e0, h.k0, hk, h.r0, h.r1, h.l, h.now, h.since⟩) fun _ => ?_
      rw [down_ok hk, Option.bind_some]
      exact .bind (atB h0 h4) fun _ _ => .pure ⟨h.setup, h.s0, h.s1, h.e0, h.k0, hk, h.r0, h.r1, h.l, h.now, h.since⟩
  clear h
  have h := hW
  refine .bind (P := Idle s k) ?_ fun W2 hW => ?_
  · refine .bind (router_val h0 h1) fun r hr => .ite (fun c => ?_) fun c => ?_
    · rw [rdown_none, Option.bind_some, if_neg (by decide)]; exact .pure h
    have hr := hr.resolve_left (of_decide_eq_false c)
    have h4 : n < 4 := by rcases hr with a | a <;> exact a.2
    refine .ite (fun c => ?_) fun c => ?_
    · rw [rdown_ok h.r0, Option.bind_some]
      refine .ite (fun _ => ?_) fun _ => .pure h
      refine .bind (atA h0 h4) fun _ _ => .bind (look_r h.r0 h.s0 h.e0) fun r hr => ?_
      obtain ⟨e1, e2, hk⟩ := hr
      rw [e1, e2, if_neg (by decide), send_ok, Option.bind_some]
      refine .bind (atB h0 h4) fun b _ => .ite (fun _ => .bind (atB h0 h4) fun _ _ => .pure ⟨h.setup, h.s0, h.s1, h.e0, h.k0, h.k1, hk, h.r1, h.l, h.now, h.since⟩) fun _ => ?_
      rw [rdown_ok hk, Option.bind_some]
      exact .bind (atB h0 h4) fun _ _ => .pure ⟨h.setup, h.s0, h.s1, h.e0, h.k0, h.k1, hk, h.r1, h.l, h.now, h.since⟩
    · rw [rdown_ok h.r1, Option.bind_some]
      refine .ite (fun _ => ?_) fun _ => .pure h
      refine .bind (atA h0 h4) fun _ _ => .bind (look_r h.r1 h.s0 h.e0) fun r hr => ?_
      obtain ⟨e1, e2, hk⟩ := hr
      rw [e1, e2, if_neg (by decide), send_ok, Option.bind_some]
      refine .bind (atB h0 h4) fun b _ => .ite (fun _ => .bind (atB h0 h4) fun _ _ => .pure ⟨h.setup, h.s0, h.s1, h.e0, h.k0, h.k1, h.r0, hk, h.l, h.now, h.since⟩) fun _ => ?_
      rw [rdown_ok hk, Option.bind_some]
      exact .bind (atB h0 h4) fun _ _ => .pure ⟨h.setup, h.s0, h.s1, h.e0, h.k0, h.k1, h.r0, hk, h.l, h.now, h.since⟩
  refine .ite (fun _ => ?_) fun _ => .pure ⟨_, rfl, hW⟩
  rw [look_l hW.l, Option.bind_some, send_ok, Option.bind_some]
  exact .pure ⟨_, rfl, hW⟩
theorem settle_ok (h : Idle s k W) (hn : n = 0 ∨ n = 1) : world_World_settle_bx (some W) n = some () := by
  have key : Tt (world_World_settle_bx (some W) n) (fun _ => True) := by
    unfold world_World_settle_bx
    refine .loopW (fun j b => j = if b then 1 else 0) (fun _ => True) 1 rfl (fun j b hI => ?_) fun _ _ => .pure trivial
    cases b with
    | false => exact .thn (.ite (fun c => by simp at c) fun _ => .pure trivial)
    | true =>
      subst hI
      refine .thn (.ite (fun _ => ?_) fun c => by simp at c)
      rw [Option.bind_some]
      rcases hn with rfl | rfl
      · rw [if_pos (by decide), pool_ok h.s0, Option.bind_some, if_neg (by decide)]
        exact .pure ⟨0, by decide, rfl⟩
      · rw [if_neg (by decide), if_pos (by decide), pool_ok h.s1, Option.bind_some, if_neg (by decide)]
        exact .pure ⟨0, by decide, rfl⟩
  obtain ⟨_, hr, _⟩ := key
  exact hr
theorem tick_ok (h : Idle s k W) (hk : k ≤ 1000) (hs : okSu s) : Tt (world_World_tick_bx (some W)) (fun r => ∃ W', r = some W' ∧ Idle s (k + 1) W') := by
  obtain ⟨d1, d2, k1, k2, q1, q2, m1, m2⟩ := hs
  unfold world_World_tick_bx
  rw [Option.bind_some]
  refine .bind (rise_ok h.s0 (by omega) (by omega)) fun ca ha => .bind (rise_ok h.s1 (by omega) (by omega)) fun cb hb => ?_
  rw [corrupt_val (by decide)]
  have any : ∀ {x : Option Bool} {f : Bool → Option A4_bool}, (∃ b, x = some b) → (∀ b, ∃ r, f b = some r) → Tt (Option.bind x f) (fun _ => True) := fun ⟨b, hb⟩ hf => by
    subst hb
    obtain ⟨r, hr⟩ := hf b
    exact ⟨r, hr, trivial⟩
  have one : ∀ {c : Bool} {b : Bool}, ∃ r, (if c = true then some b else some false) = some r := fun {c b} => by cases c <;> exact ⟨_, rfl⟩
  have two : ∀ {x y : A4_bool} (b : Bool), ∃ r, (if b = true then some x else some y) = some r := fun {x y} b => by cases b <;> exact ⟨_, rfl⟩
  refine .bind (any (by rw [Option.bind_some]; exact one) two) fun l1 _ => ?_
  rw [corrupt_val (by decide)]
  refine .bind (any (by rw [Option.bind_some]; exact one) two) fun l2 _ => ?_
  rw [corrupt_val (by decide)]
  refine .bind (any (by rw [Option.bind_some]; exact one) two) fun l3 _ => ?_
  rw [corrupt_val (by decide)]
  refine .bind (any (by rw [Option.bind_some]; exact one) two) fun l4 _ => ?_
  rw [h.since, Option.bind_some]
  refine .grd rfl (.pure ⟨_, rfl, h.setup, ?_, ?_, ?_, h.k0, h.k1, h.r0, h.r1, h.l, ?_, rfl⟩)
  · rw [show (1000 + ((k + 1 : Nat) : Int)) = 1000 + (k : Int) + 1 by omega]; exact ha.1
  · rw [show (1000 + s.Skew + ((k + 1 : Nat) : Int)) = 1000 + s.Skew + (k : Int) + 1 by omega]; exact hb.1
  · intro c hc
    obtain ⟨d, hd, _⟩ := h.s0
    rw [ha.2 c hc d hd]
    exact h.e0 d hd
  · show IntKind.i64.wrap (W.now + 1) = _
    rw [h.now, wrap64 (by omega) (by omega)]; omega
theorem round_ok (h : Idle s k W) (hk : k ≤ 1000) (hs : okSu s) : Tt (world_World_round_bx (some W)) (fun r => ∃ W', r = some W' ∧ Idle s (k + 1) W') := by
  unfold world_World_round_bx
  rw [show world_World_all_bx (some W) = some () by unfold world_World_all_bx; rfl, Option.bind_some]
  refine .bind (look_ok h (by decide) (by decide)) fun o hw => ?_
  obtain ⟨W1, rfl, h1⟩ := hw
  refine .bind (look_ok h1 (by decide) (by decide)) fun o hw => ?_
  obtain ⟨W2, rfl, h2⟩ := hw
  refine .bind (look_ok h2 (by decide) (by decide)) fun o hw => ?_
  obtain ⟨W3, rfl, h3⟩ := hw
  refine .bind (look_ok h3 (by decide) (by decide)) fun o hw => ?_
  obtain ⟨W4, rfl, h4⟩ := hw
  refine .bind (look_ok h4 (by decide) (by decide)) fun o hw => ?_
  obtain ⟨W5, rfl, h5⟩ := hw
  rw [show world_World_all_bx (some W5) = some () by unfold world_World_all_bx; rfl, Option.bind_some, settle_ok h5 (.inl rfl), Option.bind_some, settle_ok h5 (.inr rfl), Option.bind_some]
  exact .bind (tick_ok h5 hk hs) fun o ho => .pure ho
theorem wis_some (h : W.since = some []) : world_World_is_bx (some W) = some true ∧ world_World_is W = true := by
  unfold world_World_is_bx world_World_is
  rw [h]
  exact ⟨by simp only [Option.isSome_some, if_true, Option.bind_some, h], rfl⟩
theorem step_ok (h : Idle s k W) (hk : k ≤ 1000) (hs : okSu s) : Tt (world_World_Step_bx (some W) (⟨13, 0, 0, 0, []⟩ : api_Step)) (fun r => ∃ W', r = some W' ∧ Idle s (k + 1) W') := by
  unfold world_World_Step_bx
  rw [(wis_some h.since).1, Option.bind_some, if_neg (by decide), if_neg (by decide), if_neg (by decide)]
  refine .thn ?_
  rw [if_neg (by decide), if_neg (by decide), if_neg (by decide), if_neg (by decide), if_neg (by decide), if_neg (by decide), if_neg (by decide), if_pos (by decide)]
  exact .bind (round_ok h hk hs) fun o ho => .pure ho
/-- So many rounds. -/
theorem run_ok {m : Nat} {r : Int} (h : Idle s 0 W) (hs : okSu s) (hr : (if 200 < (if 0 > r then 0 else r) then 200 else if 0 > r then 0 else r) = (m : Int)) (hm : m ≤ 200) : Tt (fair_Run_bx (some W) r) (fun o => ∃ W', o = some W' ∧ Idle s m W') := by
  unfold fair_Run_bx
  rw [hr]
  refine .loopW (fun j p => j ≤ m ∧ p.1 = ((m - j : Nat) : Int) ∧ ∃ W', p.2 = some W' ∧ Idle s (m - j) W') (fun p => ∃ W', p.2 = some W' ∧ Idle s m W') m ⟨Nat.le_refl _, by simp, W, rfl, by simpa using h⟩ (fun j p hI => ?_) fun p hp => .pure hp
  obtain ⟨hj, hp, W', hW, hi⟩ := hI
  refine .ite (fun c => ?_) fun c => ?_
  · have c := of_decide_eq_true c
    rw [hp] at c
    rw [hW]
    refine .bind (step_ok hi (by omega) hs) fun o ho => .pure ⟨j - 1, by omega, by omega, ?_, ?_⟩
    · show IntKind.i64.wrap (p.1 + 1) = _
      rw [hp, wrap64 (by omega) (by omega)]; omega
    · rw [show m - (j - 1) = m - j + 1 by omega]; exact ho
  · have c := of_decide_eq_false c
    rw [hp] at c
    have e : m - j = m := by omega
    rw [e] at hi
    exact .pure ⟨W', hW, hi⟩
end
theorem alive33 : narrowslaw33_alive = some true := by
  have ho : okSu ⟨1, 0, 31, 9000⟩ := by unfold okSu; decide
  obtain ⟨r, hr, h0, W, hW, hm⟩ := New_ok ho
  obtain ⟨o, hk, W', rfl, hi⟩ := run_ok (m := 1) (r := 1) hm ho (by decide) (by decide)
  unfold narrowslaw33_alive
  rw [hr, Option.bind_some, hW, hk, Option.bind_some, h0, if_pos (by decide)]
  unfold world_World_Now_bx
  rw [(wis_some hi.since).1, Option.bind_some, if_neg (by decide), Option.bind_some, Option.bind_some, hi.now, Option.bind_some]
  rfl
theorem rounds_val (n : Int) : ∃ m : Int, -1 ≤ m ∧ m ≤ 4 ∧ IntKind.i64.wrap ((Int.tmod (IntKind.i64.wrap ((Int.tmod n 6) + 6)) 6) - 1) = m := by
  have h1 : Int.tmod n 6 < 6 := Int.tmod_lt_of_pos n (by decide)
  have h2 : -6 < Int.tmod n 6 := by
    have := Int.tmod_lt_of_pos (-n) (b := 6) (by decide)
    rw [Int.neg_tmod] at this
    omega
  rw [wrap64 (n := Int.tmod n 6 + 6) (by omega) (by omega)]
  have h3 := Int.tmod_lt_of_pos (Int.tmod n 6 + 6) (b := 6) (by decide)
  have h4 := Int.tmod_nonneg (a := Int.tmod n 6 + 6) 6 (by omega)
  exact ⟨Int.tmod (Int.tmod n 6 + 6) 6 - 1, by omega, by omega, wrap64 (by omega) (by omega)⟩
theorem FairRuns_true (s : world_Setup) (n : Int) : ∃ r, narrowslaw33_FairRuns s n = some r ∧ r = true := by
  show Tt _ (fun r => r = true)
  obtain ⟨m, m1, m2, hm⟩ := rounds_val n
  unfold narrowslaw33_FairRuns
  rw [hm, alive33, Option.bind_some, if_neg (by decide)]
  by_cases hs : okSu s
  · obtain ⟨r, hr, h0, W, hW, hi⟩ := New_ok hs
    rw [hr, Option.bind_some, h0, if_neg (by decide), hW]
    have hq : (if 200 < (if 0 > m then 0 else m) then 200 else if 0 > m then 0 else m) = ((m.toNat : Nat) : Int) := by
      by_cases h : 0 > m
      · rw [if_pos h]; simp; omega
      · rw [if_neg h, if_neg (by omega)]; omega
    obtain ⟨o, hk, W', rfl, hi⟩ := run_ok hi hs hq (by omega)
    rw [hk, Option.bind_some]
    unfold world_World_Now_bx
    rw [(wis_some hi.since).1, Option.bind_some, if_neg (by decide), Option.bind_some, Option.bind_some, hi.now]
    have hq2 : ((m.toNat : Nat) : Int) = if 0 > m then 0 else m := by
      by_cases h : 0 > m
      · rw [if_pos h]; omega
      · rw [if_neg h]; omega
    rw [if_pos (decide_eq_true hq2), Option.bind_some]
    have s0 : world_World_Side_k0 W' = 1 := by
      unfold world_World_Side_k0 world_within
      rw [(wis_some hi.since).2]; rfl
    rw [if_neg (by rw [s0]; decide), pool_ok hi.s0, Option.bind_some, Option.bind_some]
    exact .pure rfl
  · rw [New_bad hs, Option.bind_some, if_pos (by decide)]
    exact .pure rfl
end Go.Sl
