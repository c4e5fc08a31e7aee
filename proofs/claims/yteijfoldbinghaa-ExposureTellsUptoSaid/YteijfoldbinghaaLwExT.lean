/- The plain law of narrowslaw38: what is out. -/
import Derived.Test.YteijfoldbinghaaLwWid
import Derived.Test.YteijfoldbinghaaLwHash
set_option linter.unusedVariables false
set_option linter.unusedSimpArgs false
namespace Go.Sl
theorem band1 (m : Int) : bandK .i64 m 1 = 0 ∨ bandK .i64 m 1 = 1 := by
  unfold bandK
  have h : (BitVec.ofInt IntKind.i64.bits m &&& BitVec.ofInt IntKind.i64.bits 1).toNat = (BitVec.ofInt IntKind.i64.bits m).toNat % 2 := by
    rw [BitVec.toNat_and]
    have : (BitVec.ofInt IntKind.i64.bits 1).toNat = 1 := by decide
    rw [this, Nat.and_one_is_mod]
  rw [h, wrap64 (by omega) (by omega)]
  omega
theorem Deals_spec (l : List api_Event) (hl : l.length ≤ 1048576) : ∃ D, scan_Deals l = some D ∧ D.length ≤ l.length := by
  unfold scan_Deals
  refine loopR_bind (fun i s => s.length ≤ i) (fun o => match o with | .dn s => s.length ≤ l.length | .rt r => False) (by simp) ?_ (fun s h => h) ?_
  · intro i x s hx hs
    have hi := (List.getElem?_eq_some_iff.1 hx).1
    unfold thn
    generalize (if decide (x.Code = 0) = true then decide (x.Tx.Kind = 4) else false) = b
    cases b with
    | false => exact ⟨_, rfl, by dsimp only; omega⟩
    | true =>
      dsimp only
      rw [if_pos rfl, grd_pos (by simp; omega)]
      exact ⟨_, rfl, by simp; omega⟩
  · rintro (s | r) hq
    · exact ⟨_, rfl, hq⟩
    · exact hq.elim
theorem place_spec (s : escrow_State) (k : ByteArray) : ∃ r, escrow_State_place s k = some r ∧ r < s.Locks.length := by
  have key : ∃ r, slices_IndexFunc_i133_f134 s.Locks k = some r ∧ r < (s.Locks.length : Int) := by
    unfold slices_IndexFunc_i133_f134
    refine loopR_bind (fun i s => True) (fun o => match o with | .dn _ => True | .rt r => r < (s.Locks.length : Int)) trivial ?_ (fun _ _ => trivial) ?_
    · intro i x u hx _
      have hi := (List.getElem?_eq_some_iff.1 hx).1
      split
      · exact ⟨_, rfl, by dsimp only; omega⟩
      · exact ⟨_, rfl, trivial⟩
    · rintro (u | r) hq
      · exact ⟨_, rfl, by omega⟩
      · exact ⟨_, rfl, hq⟩
  obtain ⟨r, hr, h⟩ := key
  unfold escrow_State_place
  rw [hr]
  exact ⟨_, rfl, h⟩
theorem Status_spec (s : escrow_State) (k : ByteArray) : ∃ r, escrow_Status s k = some r := by
  unfold escrow_Status
  obtain ⟨r, hr, h⟩ := place_spec s k
  rw [hr, Option.bind_some]
  by_cases h0 : r < 0
  · rw [if_pos (decide_eq_true h0)]; exact ⟨_, rfl⟩
  · rw [if_neg (by simpa using h0)]
    obtain ⟨x, hx⟩ := at_some (xs := s.Locks) (m := r) (by omega) h
    rw [hx]; exact ⟨_, rfl⟩
/-- Is a transfer out, of a router? -/
noncomputable def Fx (s : escrow_State) (n : Int) (t : api_Tx) : Bool := ((deal_Key t.Inv).bind fun k => (escrow_Status s k).bind fun v => some (decide (t.Inv.Router = n ∧ v = 1))).getD false
theorem Fx_spec (s : escrow_State) (n : Int) (t : api_Tx) : ∃ k v, deal_Key t.Inv = some k ∧ escrow_Status s k = some v ∧ Fx s n t = decide (t.Inv.Router = n ∧ v = 1) := by
  obtain ⟨k, hk, _⟩ := Key_spec t.Inv
  obtain ⟨v, hv⟩ := Status_spec s k
  refine ⟨k, v, hk, hv, ?_⟩
  unfold Fx
  rw [hk, Option.bind_some, hv, Option.bind_some]; rfl
noncomputable def bx (s : escrow_State) (t : api_Tx) : Int := bandK .i64 (exposure_asset s.Side t.Inv) 1
noncomputable def Rx (s : escrow_State) (n : Int) (row : exposure_Row) (t : api_Tx) : exposure_Row :=
  if Fx s n t = true then ⟨row.Router, row.Vault, A2_api_Wide.set row.Out (bx s t).toNat ((wide_Add (out row.Out (bx s t)) t.Var.Amount).1), IntKind.i64.wrap (row.Open + 1)⟩ else row
theorem Rx_same (s : escrow_State) (n : Int) (D : List api_Tx) : ∀ row, (D.foldl (Rx s n) row).Router = row.Router ∧ (D.foldl (Rx s n) row).Vault = row.Vault := by
  induction D with
  | nil => intro row; exact ⟨rfl, rfl⟩
  | cons t D ih =>
    intro row
    have : (Rx s n row t).Router = row.Router ∧ (Rx s n row t).Vault = row.Vault := by
      unfold Rx; split <;> exact ⟨rfl, rfl⟩
    rw [List.foldl_cons, (ih _).1, (ih _).2]
    exact this
theorem add_spec (row : exposure_Row) (s : escrow_State) (t : api_Tx) : exposure_Row_add row s.Side t = some ⟨row.Router, row.Vault, A2_api_Wide.set row.Out (bx s t).toNat ((wide_Add (out row.Out (bx s t)) t.Var.Amount).1), IntKind.i64.wrap (row.Open + 1)⟩ := by
  unfold exposure_Row_add
  have h : bandK .i64 (exposure_asset s.Side t.Inv) 1 = bx s t := rfl
  rw [h, at_out (show bx s t = 0 ∨ bx s t = 1 from band1 _), Option.bind_some, Option.bind_some]
/-- What the program adds up. -/
theorem prog_loop {β : Type} (s : escrow_State) (n : Int) (D : List api_Tx) (row : exposure_Row) : loopR (β := β) (fun (i20 : Nat) (e23 : api_Tx) (s21 : exposure_Row) => Option.bind (Option.bind (if (decide (e23.Inv.Router = n)) = true then (Option.bind (deal_Key e23.Inv) fun r45 => Option.bind (escrow_Status s r45) fun r47 => some (decide (r47 = 1))) else (some false)) fun (y41 : Bool) => if y41 = true then (Option.bind (exposure_Row_add s21 s.Side e23) fun r50 => some r50) else (some s21)) fun (y34 : exposure_Row) => some (.nx y34)) 0 D row = some (.dn (D.foldl (Rx s n) row)) := by
  obtain ⟨o, ho, hq⟩ := loopR_by (β := β) (f := (fun (i20 : Nat) (e23 : api_Tx) (s21 : exposure_Row) => Option.bind (Option.bind (if (decide (e23.Inv.Router = n)) = true then (Option.bind (deal_Key e23.Inv) fun r45 => Option.bind (escrow_Status s r45) fun r47 => some (decide (r47 = 1))) else (some false)) fun (y41 : Bool) => if y41 = true then (Option.bind (exposure_Row_add s21 s.Side e23) fun r50 => some r50) else (some s21)) fun (y34 : exposure_Row) => some (.nx y34))) (xs := D)
    (fun i r => r = (D.take i).foldl (Rx s n) row) (fun o => o = .dn (D.foldl (Rx s n) row)) (fun i x r hx hr => by
      subst hr
      refine ⟨.nx (Rx s n ((D.take i).foldl (Rx s n) row) x), ?_, ?_⟩
      · obtain ⟨k, v, hk, hv, hF⟩ := Fx_spec s n x
        unfold Rx
        by_cases hn : x.Inv.Router = n
        · rw [if_pos (decide_eq_true hn), hk, Option.bind_some, hv, Option.bind_some, Option.bind_some]
          by_cases hv1 : v = 1
          · rw [if_pos (decide_eq_true hv1), add_spec, hF, if_pos (decide_eq_true ⟨hn, hv1⟩)]; rfl
          · rw [if_neg (by simpa using hv1), hF, if_neg (by simp [hv1])]; rfl
        · rw [if_neg (by simpa using hn), hF, if_neg (by simp [hn])]; rfl
      · show Rx s n _ x = _
        rw [List.take_add_one, hx]; simp) (fun r hr => by rw [hr, List.take_length]) (s := row) rfl
  rw [ho, hq]
abbrev Z2 : A2_api_Wide := ⟨⟨0, 0, 0, 0⟩, ⟨0, 0, 0, 0⟩⟩
theorem Of_spec (s : escrow_State) (l : List api_Event) {D : List api_Tx} (hD : scan_Deals l = some D) : exposure_Of s l = some [D.foldl (Rx s 2) ⟨2, s.Vault.a2, Z2, 0⟩, D.foldl (Rx s 3) ⟨3, s.Vault.a3, Z2, 0⟩] := by
  unfold exposure_Of
  rw [hD, Option.bind_some]
  have w2 : IntKind.i64.wrap (2 + 1) = 3 := rfl
  have w3 : IntKind.i64.wrap (3 + 1) = 4 := rfl
  have v2 : at_ (purse_Book.list s.Vault) 2 = some s.Vault.a2 := rfl
  have v3 : at_ (purse_Book.list s.Vault) 3 = some s.Vault.a3 := rfl
  rw [loopW_step]
  dsimp only
  rw [if_pos (by decide), v2, Option.bind_some, prog_loop, Option.bind_some, Lo.on, grd_pos (by simp), Option.bind_some, w2]
  dsimp only
  rw [loopW_step]
  dsimp only
  rw [if_pos (by simp), v3, Option.bind_some, prog_loop, Option.bind_some, Lo.on, grd_pos (by simp), Option.bind_some, w3]
  dsimp only
  rw [loopW_step]
  dsimp only
  rw [if_neg (by simp), Option.bind_some]
  rfl
theorem alive38 : narrowslaw38_alive = some true := by
  have hg : (escrow_Genesis 0 5).Vault = purse_Book.z := by unfold escrow_Genesis; rfl
  have hd : scan_Deals [] = some [] := by unfold scan_Deals; rfl
  have h1 := Of_spec (escrow_Genesis 0 5) [] hd
  rw [hg] at h1
  obtain ⟨w, hw, b, x, ⟨x', hb', hbn, hall⟩, hb, rfl⟩ := Widest_spec [⟨2, A2_api_Wide.z, A2_api_Wide.z, 0⟩, ⟨3, A2_api_Wide.z, A2_api_Wide.z, 0⟩] (m := 0) (Or.inl rfl) (by simp) (by simp)
  have hx : x.Router = 2 := by
    rw [hb] at hb'; cases hb'
    have h0 := hall 0 ⟨2, A2_api_Wide.z, A2_api_Wide.z, 0⟩ (by simp) rfl
    rcases b with _ | _ | b
    · cases hb; rfl
    · have := h0.2 (by omega)
      cases hb
      exact absurd this (Nat.lt_irrefl _)
    · simp at hb
  unfold narrowslaw38_alive
  have h2 : exposure_Of (escrow_Genesis 0 5) ([] : List api_Event) = some [⟨2, A2_api_Wide.z, A2_api_Wide.z, 0⟩, ⟨3, A2_api_Wide.z, A2_api_Wide.z, 0⟩] := h1
  rw [h2, Option.bind_some, hw]
  simp [at_, hx]
/-- What the law adds up. -/
theorem law_loop {β : Type} (s : escrow_State) (n : Int) (D : List api_Tx) (hD : D.length ≤ 1048576) (row : exposure_Row) : ∃ o, loopW (β := β) (fun (s27 : Int × A2_api_Wide × Int) => if (decide (s27.1 < ((D.length : Int)))) = true then (Option.bind (Option.bind (at_ D s27.1) fun (x43 : api_Tx) => Option.bind (if (decide (x43.Inv.Router ≠ n)) = true then (some true) else (Option.bind (deal_Key x43.Inv) fun r52 => Option.bind (escrow_Status s r52) fun r54 => some (decide (r54 ≠ 1)))) fun (y48 : Bool) => if y48 = true then (some (s27.2.1, s27.2.2)) else (thn (if (decide (s.Side = 1)) = true then (bandK .i64 x43.Inv.Recv 1) else (bandK .i64 x43.Inv.Send 1)) fun (y57 : Int) => Option.bind (at_ (A2_api_Wide.list s27.2.1) y57) fun (x61 : api_Wide) => Option.bind (narrowsref01_Add x61 x43.Var.Amount) fun r65 => Option.bind (at_ (A2_api_Wide.list s27.2.1) y57) fun (x67 : api_Wide) => some ((A2_api_Wide.set s27.2.1 (y57).toNat r65.1, IntKind.i64.wrap (s27.2.2 + 1))))) fun (y37 : A2_api_Wide × Int) => some (.nx ((IntKind.i64.wrap (s27.1 + 1), y37.1, y37.2)))) else (some (.br (s27.1, s27.2.1, s27.2.2)))) (0, row.Out, row.Open) = some (.dn o) ∧ o.2.1 = (D.foldl (Rx s n) row).Out ∧ o.2.2 = (D.foldl (Rx s n) row).Open := by
  have key := loopW_by (β := β) (f := (fun (s27 : Int × A2_api_Wide × Int) => if (decide (s27.1 < ((D.length : Int)))) = true then (Option.bind (Option.bind (at_ D s27.1) fun (x43 : api_Tx) => Option.bind (if (decide (x43.Inv.Router ≠ n)) = true then (some true) else (Option.bind (deal_Key x43.Inv) fun r52 => Option.bind (escrow_Status s r52) fun r54 => some (decide (r54 ≠ 1)))) fun (y48 : Bool) => if y48 = true then (some (s27.2.1, s27.2.2)) else (thn (if (decide (s.Side = 1)) = true then (bandK .i64 x43.Inv.Recv 1) else (bandK .i64 x43.Inv.Send 1)) fun (y57 : Int) => Option.bind (at_ (A2_api_Wide.list s27.2.1) y57) fun (x61 : api_Wide) => Option.bind (narrowsref01_Add x61 x43.Var.Amount) fun r65 => Option.bind (at_ (A2_api_Wide.list s27.2.1) y57) fun (x67 : api_Wide) => some ((A2_api_Wide.set s27.2.1 (y57).toNat r65.1, IntKind.i64.wrap (s27.2.2 + 1))))) fun (y37 : A2_api_Wide × Int) => some (.nx ((IntKind.i64.wrap (s27.1 + 1), y37.1, y37.2)))) else (some (.br (s27.1, s27.2.1, s27.2.2)))))
    (fun k z => ∃ i : Nat, z.1 = i ∧ i ≤ D.length ∧ k = D.length - i ∧ z.2.1 = ((D.take i).foldl (Rx s n) row).Out ∧ z.2.2 = ((D.take i).foldl (Rx s n) row).Open)
    (fun o => ∃ z, o = .dn z ∧ z.2.1 = (D.foldl (Rx s n) row).Out ∧ z.2.2 = (D.foldl (Rx s n) row).Open) ?_ D.length (0, row.Out, row.Open) ⟨0, rfl, by omega, by omega, rfl, rfl⟩
  · obtain ⟨o, ho, z, rfl, h⟩ := key
    exact ⟨z, ho, h⟩
  · rintro k ⟨i0, O, c⟩ ⟨i, rfl, hi, rfl, hO, hc⟩
    dsimp only at hO hc ⊢
    by_cases hlt : i < D.length
    · rw [if_pos (decide_eq_true (by omega))]
      have hx := List.getElem?_eq_getElem hlt
      generalize D[i] = x at hx
      have hnext : (D.take (i + 1)).foldl (Rx s n) row = Rx s n ((D.take i).foldl (Rx s n) row) x := by
        rw [List.take_add_one, hx]; simp
      obtain ⟨k, v, hk, hv, hF⟩ := Fx_spec s n x
      rw [at_nat, hx, Option.bind_some, wr1 (by omega)]
      generalize (D.take i).foldl (Rx s n) row = r0 at hO hc hnext
      subst hO hc
      by_cases hn : x.Inv.Router = n
      · rw [if_neg (by simpa using hn), hk, Option.bind_some, hv, Option.bind_some, Option.bind_some]
        by_cases hv1 : v = 1
        · rw [if_neg (by simpa using hv1)]
          have hy : (if (decide (s.Side = 1)) = true then (bandK .i64 x.Inv.Recv 1) else (bandK .i64 x.Inv.Send 1)) = bx s x := by
            unfold bx exposure_asset; split <;> rfl
          rw [thn, hy, at_out (show bx s x = 0 ∨ bx s x = 1 from band1 _), Option.bind_some, refAdd_eq, Option.bind_some, Option.bind_some]
          refine ⟨_, rfl, D.length - (i + 1), by omega, i + 1, rfl, by omega, rfl, ?_, ?_⟩
          · rw [hnext]; unfold Rx; rw [hF, if_pos (decide_eq_true ⟨hn, hv1⟩)]
          · rw [hnext]; unfold Rx; rw [hF, if_pos (decide_eq_true ⟨hn, hv1⟩)]
        · rw [if_pos (by simpa using hv1)]
          refine ⟨_, rfl, D.length - (i + 1), by omega, i + 1, rfl, by omega, rfl, ?_, ?_⟩
          · rw [hnext]; unfold Rx; rw [hF, if_neg (by simp [hv1])]
          · rw [hnext]; unfold Rx; rw [hF, if_neg (by simp [hv1])]
      · rw [if_pos (by simpa using hn), Option.bind_some, if_pos rfl]
        refine ⟨_, rfl, D.length - (i + 1), by omega, i + 1, rfl, by omega, rfl, ?_, ?_⟩
        · rw [hnext]; unfold Rx; rw [hF, if_neg (by simp [hn])]
        · rw [hnext]; unfold Rx; rw [hF, if_neg (by simp [hn])]
    · rw [if_neg (by rw [decide_eq_true_iff]; omega)]
      obtain rfl : i = D.length := by omega
      rw [List.take_length] at hO hc
      exact ⟨_, rfl, _, rfl, hO, hc⟩
theorem ExposureTells_true (s : escrow_State) (l : List api_Event) (hs : s.Locks.length ≤ 1048576) (hl : l.length ≤ 1048576) : ∃ b, narrowslaw38_ExposureTells s l = some b ∧ b = true := by
  unfold narrowslaw38_ExposureTells
  obtain ⟨D, hD, hDl⟩ := Deals_spec l hl
  rw [alive38, Option.bind_some, if_neg (by decide), Of_spec s l hD, Option.bind_some, if_neg (by simp), hD, Option.bind_some]
  have row : ∀ (n : Int) (v : A2_api_Wide) (o : Int × A2_api_Wide × Int), o.2.1 = (D.foldl (Rx s n) ⟨n, v, Z2, 0⟩).Out → o.2.2 = (D.foldl (Rx s n) ⟨n, v, Z2, 0⟩).Open → D.foldl (Rx s n) ⟨n, v, Z2, 0⟩ = ⟨n, v, o.2.1, o.2.2⟩ := fun n v o h1 h2 => by
    obtain ⟨g1, g2⟩ := Rx_same s n D ⟨n, v, Z2, 0⟩
    have h3 : ∀ (q : exposure_Row), q.Router = n → q.Vault = v → q = ⟨n, v, q.Out, q.Open⟩ := by rintro ⟨⟩ rfl rfl; rfl
    rw [h1, h2]
    exact h3 _ g1 g2
  have w2 : IntKind.i64.wrap (2 + 1) = 3 := rfl
  have w3 : IntKind.i64.wrap (3 + 1) = 4 := rfl
  have u2 : IntKind.i64.wrap (2 - 2) = 0 := rfl
  have u3 : IntKind.i64.wrap (3 - 2) = 1 := rfl
  have v2 : at_ (purse_Book.list s.Vault) 2 = some s.Vault.a2 := rfl
  have v3 : at_ (purse_Book.list s.Vault) 3 = some s.Vault.a3 := rfl
  obtain ⟨o2, h2, h2a, h2b⟩ := law_loop (β := Ct Int Bool) s 2 D (by omega) ⟨2, s.Vault.a2, Z2, 0⟩
  obtain ⟨o3, h3, h3a, h3b⟩ := law_loop (β := Ct Int Bool) s 3 D (by omega) ⟨3, s.Vault.a3, Z2, 0⟩
  have r2 := row 2 s.Vault.a2 o2 h2a h2b
  have r3 := row 3 s.Vault.a3 o3 h3a h3b
  clear h2a h2b h3a h3b row
  generalize D.foldl (Rx s 2) ⟨2, s.Vault.a2, Z2, 0⟩ = q2 at r2 ⊢
  generalize D.foldl (Rx s 3) ⟨3, s.Vault.a3, Z2, 0⟩ = q3 at r3 ⊢
  dsimp only at h2 h3
  have a2 : at_ [q2, q3] 0 = some q2 := rfl
  have a3 : at_ [q2, q3] 1 = some q3 := rfl
  rw [loopW_step]
  rw [if_pos (by decide), v2, Option.bind_some, h2, Option.bind_some, Lo.on, u2, a2, Option.bind_some, if_neg (by rw [r2]; simp), Option.bind_some, w2]
  dsimp only
  rw [loopW_step]
  rw [if_pos (by simp), v3, Option.bind_some, h3, Option.bind_some, Lo.on, u3, a3, Option.bind_some, if_neg (by rw [r3]; simp), Option.bind_some, w3]
  dsimp only
  rw [loopW_step]
  rw [if_neg (by simp), Option.bind_some]
  exact ⟨_, rfl, rfl⟩
end Go.Sl
