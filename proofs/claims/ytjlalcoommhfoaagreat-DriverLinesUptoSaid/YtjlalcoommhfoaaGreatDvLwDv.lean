/- A report's line; a new world is well. -/
import Derived.Test.YtjlalcoommhfoaaGreatDvLwNewD
import Derived.Test.YtjlalcoommhfoaaGreatDvLwDiv
set_option linter.unusedVariables false
set_option linter.unusedSimpArgs false
namespace Go.Sl
theorem ui_nat (n : Int) : (Ui n).toNat = (n % 18446744073709551616).toNat := by
  unfold Ui
  rw [UInt64.toNat_ofNat']
  show _ % 18446744073709551616 = _
  omega
theorem wrap_mod (n : Int) : IntKind.i64.wrap n % 18446744073709551616 = n % 18446744073709551616 := by
  have key : IntKind.i64.wrap n = n % 18446744073709551616 ∨ IntKind.i64.wrap n = n % 18446744073709551616 - 18446744073709551616 := by
    unfold IntKind.wrap
    dsimp only
    cases (IntKind.i64.signed && decide (n % 2 ^ IntKind.i64.bits ≥ 2 ^ (IntKind.i64.bits - 1))) with
    | true => exact .inr rfl
    | false => exact .inl rfl
  rcases key with h | h <;> rw [h] <;> omega
theorem neg_eq (n : Int) : Ui (IntKind.i64.wrap (0 - (IntKind.i64.wrap (n + 1)))) + 1 = 0 - Ui n := by
  apply UInt64.toNat_inj.1
  rw [UInt64.toNat_add, UInt64.toNat_sub, ui_nat, ui_nat, wrap_mod]
  have h := wrap_mod (n + 1)
  show ((0 - IntKind.i64.wrap (n + 1)) % 18446744073709551616).toNat.add 1 % 18446744073709551616 = (18446744073709551616 - (n % 18446744073709551616).toNat + 0) % 18446744073709551616
  generalize IntKind.i64.wrap (n + 1) = m at *
  show (((0 - m) % 18446744073709551616).toNat + 1) % 18446744073709551616 = _
  omega
theorem put1 (x : UInt64) : Tt (text_Put ⟨x, 0, 0, 0⟩) (fun t => t.size ≤ 41) := put_ok _ (by
  unfold wv
  have := x.toNat_lt
  have e : (10 : Nat) ^ 40 = 10000000000000000000000000000000000000000 := by decide
  have z : (0 : UInt64).toNat = 0 := rfl
  dsimp only
  rw [z, e]
  omega)
theorem dec_ok (n : Int) : ∃ t, narrowslaw34_decimal n = some t ∧ driver_decimal n = some t ∧ t.size ≤ 100 := by
  unfold narrowslaw34_decimal driver_decimal wide_Of
  by_cases h : n < 0
  · obtain ⟨t, ht, hs⟩ := put1 (0 - Ui n)
    have hm : (⟨#[45]⟩ : ByteArray).size = 1 := rfl
    rw [if_pos (by simpa using h), if_pos (by simpa using h), neg_eq, ht, Option.bind_some, grd_pos (by rw [hm]; omega)]
    exact ⟨_, rfl, rfl, by rw [ByteArray.size_append, hm]; omega⟩
  · obtain ⟨t, ht, hs⟩ := put1 (Ui n)
    rw [if_neg (by simpa using h), if_neg (by simpa using h), ht, Option.bind_some]
    exact ⟨_, rfl, rfl, by omega⟩
theorem ba_ext {a b : ByteArray} (h : a.data.toList = b.data.toList) : a = b := by
  obtain ⟨x⟩ := a
  obtain ⟨y⟩ := b
  exact congrArg ByteArray.mk (Array.ext' h)
theorem ba_app (a b : ByteArray) : (a ++ b).data.toList = a.data.toList ++ b.data.toList := by
  rw [ByteArray.data_append, Array.toList_append]
theorem ba_size (a : ByteArray) : a.data.toList.length = a.size := rfl
def sp : ByteArray := ⟨#[32]⟩
theorem join8 (a b c d e f g h : ByteArray) : (joined [a, b, c, d, e, f, g, h] sp).data.toList = a.data.toList ++ 32 :: (b.data.toList ++ 32 :: (c.data.toList ++ 32 :: (d.data.toList ++ 32 :: (e.data.toList ++ 32 :: (f.data.toList ++ 32 :: (g.data.toList ++ 32 :: h.data.toList)))))) := by
  unfold joined Lib.join sp
  simp [List.intercalate]
theorem line_ok (x : driver_Report) {t0 t1 t2 t3 t4 t5 : ByteArray} (h0 : driver_decimal x.Now = some t0) (h1 : driver_decimal x.Events.a0 = some t1) (h2 : driver_decimal x.Events.a1 = some t2) (h3 : driver_decimal x.Mail = some t3) (h4 : driver_decimal x.Prepared = some t4) (h5 : driver_decimal x.Done = some t5)
    (s0 : t0.size ≤ 100) (s1 : t1.size ≤ 100) (s2 : t2.size ≤ 100) (s3 : t3.size ≤ 100) (s4 : t4.size ≤ 100) (s5 : t5.size ≤ 100) : driver_Line x = some (joined [t0, t1, t2, t3, t4, t5, driver_yes x.Well, driver_yes x.Solvent] sp) := by
  unfold driver_Line
  rw [h0, Option.bind_some, h1, Option.bind_some, h2, Option.bind_some, h3, Option.bind_some, h4, Option.bind_some, h5, Option.bind_some]
  have y : ∀ b, (driver_yes b).size ≤ 3 := fun b => by unfold driver_yes; cases b <;> decide
  have hl := congrArg List.length (join8 t0 t1 t2 t3 t4 t5 (driver_yes x.Well) (driver_yes x.Solvent))
  have hw := y x.Well
  have hv := y x.Solvent
  simp only [List.length_append, List.length_cons, ba_size] at hl
  have hj : (Lib.join (([t0, t1, t2, t3, t4, t5, driver_yes x.Well, driver_yes x.Solvent] : List ByteArray).map (·.data.toList)) sp.data.toList).length ≤ 1000 := by
    have e : (joined [t0, t1, t2, t3, t4, t5, driver_yes x.Well, driver_yes x.Solvent] sp).size = (Lib.join (([t0, t1, t2, t3, t4, t5, driver_yes x.Well, driver_yes x.Solvent] : List ByteArray).map (·.data.toList)) sp.data.toList).length := rfl
    rw [← e]
    omega
  unfold strings_Join
  have hg : 2 ≤ ([t0, t1, t2, t3, t4, t5, driver_yes x.Well, driver_yes x.Solvent] : List ByteArray).length ∧ ([t0, t1, t2, t3, t4, t5, driver_yes x.Well, driver_yes x.Solvent] : List ByteArray).length ≤ 140737488355328 ∧ (Lib.join (([t0, t1, t2, t3, t4, t5, driver_yes x.Well, driver_yes x.Solvent] : List ByteArray).map (·.data.toList)) sp.data.toList).length ≤ 140737488355328 := ⟨by simp, by simp, by omega⟩
  exact (congrArg (fun o => Option.bind o fun r28 => some r28) (grd_pos hg)).trans rfl
/-! ### A new world is well -/
section
variable {W : world_World}
theorem wis_some (h : W.since = some []) : world_World_is_bx (some W) = some true ∧ world_World_is W = true := by
  unfold world_World_is_bx world_World_is
  rw [h]
  exact ⟨by simp only [Option.isSome_some, if_true, Option.bind_some, h], rfl⟩
end
theorem sheet0 (n : Int) : supply_Of [] n = some ⟨⟨⟨0, 0, 0, 0⟩, ⟨0, 0, 0, 0⟩⟩, ⟨⟨0, 0, 0, 0⟩, ⟨0, 0, 0, 0⟩⟩, ⟨⟨0, 0, 0, 0⟩, ⟨0, 0, 0, 0⟩⟩, 0⟩ := by kernel_rfl
theorem two_rounds {β : Type} {f : Int → Option (Ct Int β)} {k : Int → Option β} {S : β → Prop} (h0 : f 0 = some (.nx 1)) (h1 : f 1 = some (.nx 2)) (h2 : f 2 = some (.br 2)) (hk : Tt (k 2) S) : Tt (Option.bind (loopW f 0) fun o => Lo.on o k) S := by
  refine .loopW (fun j s => j = 2 ∧ s = 0 ∨ j = 1 ∧ s = 1 ∨ j = 0 ∧ s = 2) (fun s => s = 2) 2 (.inl ⟨rfl, rfl⟩) (fun j s hI => ?_) fun s hs => hs ▸ hk
  rcases hI with ⟨rfl, rfl⟩ | ⟨rfl, rfl⟩ | ⟨rfl, rfl⟩
  · exact ⟨_, h0, 1, by decide, .inr (.inl ⟨rfl, rfl⟩)⟩
  · exact ⟨_, h1, 0, by decide, .inr (.inr ⟨rfl, rfl⟩)⟩
  · exact ⟨_, h2, rfl⟩
theorem fits0 : supply_Fits (chain_New 0 1000).s [] = some true := by
  have key : Tt (supply_Fits (chain_New 0 1000).s []) (fun r => r = true) := by
    unfold supply_Fits
    rw [sheet0, Option.bind_some]
    exact two_rounds (by kernel_rfl) (by kernel_rfl) (by kernel_rfl) ⟨true, by kernel_rfl, rfl⟩
  obtain ⟨r, hr, rfl⟩ := key; exact hr
theorem fits1 : supply_Fits (cS 1000).s [] = some true := by
  have key : Tt (supply_Fits (cS 1000).s []) (fun r => r = true) := by
    unfold supply_Fits
    rw [sheet0, Option.bind_some]
    exact two_rounds (by kernel_rfl) (by kernel_rfl) (by kernel_rfl) ⟨true, by kernel_rfl, rfl⟩
  obtain ⟨r, hr, rfl⟩ := key; exact hr
theorem whole0 : supply_Whole (chain_New 0 1000).s = some true := by
  have key : Tt (supply_Whole (chain_New 0 1000).s) (fun r => r = true) := by
    unfold supply_Whole
    exact two_rounds (by kernel_rfl) (by kernel_rfl) (by kernel_rfl) ⟨true, rfl, rfl⟩
  obtain ⟨r, hr, rfl⟩ := key; exact hr
theorem whole1 : supply_Whole (cS 1000).s = some true := by
  have key : Tt (supply_Whole (cS 1000).s) (fun r => r = true) := by
    unfold supply_Whole
    exact two_rounds (by kernel_rfl) (by kernel_rfl) (by kernel_rfl) ⟨true, rfl, rfl⟩
  obtain ⟨r, hr, rfl⟩ := key; exact hr
theorem ev0 : chain_Chain_Events_bx (some (chain_New 0 1000)) 0 = some [] := by kernel_rfl
theorem ev1 : chain_Chain_Events_bx (some (cS 1000)) 0 = some [] := by kernel_rfl
theorem st0 : chain_Chain_State_bx (some (chain_New 0 1000)) = some (chain_New 0 1000).s := by kernel_rfl
theorem st1 : chain_Chain_State_bx (some (cS 1000)) = some (cS 1000).s := by kernel_rfl
theorem well0 : judge_Well [] = some true := by kernel_rfl
theorem count0 : judge_Count [] 2 2 = some 0 := by kernel_rfl
theorem read0 : script_Read [] = some ([], 0) := by
  have key : Tt (script_Read []) (fun r => r = ([], 0)) := by
    unfold script_Read
    rw [if_neg (by decide)]
    exact loop0 (s1 := ([], [])) rfl ⟨([], 0), rfl, rfl⟩
  obtain ⟨r, hr, rfl⟩ := key; exact hr
theorem main31 : driver_Main ⟨1, 0, 31, 0⟩ [] = some (⟨0, ⟨0, 0⟩, 0, 0, 0, true, true⟩, 0) := by
  obtain ⟨W, hW, hs, hc, hr, hn, hi⟩ := New31
  have hw := wis_some hi
  have s0 : world_World_Side_k0 W = 1 := by
    unfold world_World_Side_k0 world_within
    rw [hw.2]; rfl
  have s1 : world_World_Side_k1 W = 1 := by
    unfold world_World_Side_k1 world_within
    rw [hw.2]; rfl
  have u : ∀ n : Int, n = 0 ∨ n = 1 → judge_User_bx (some W) n = some [] := fun n h => by
    unfold judge_User_bx world_World_Client
    rw [Option.bind_some, hw.2, if_neg (by decide), hc]
    rcases h with rfl | rfl
    · rw [show world_World_client W 0 = some 1 by kernel_rfl, Option.bind_some, Option.bind_some]; rfl
    · rw [show world_World_client W 1 = some 2 by kernel_rfl, Option.bind_some, Option.bind_some]; rfl
  have v : ∀ n : Int, n = 2 ∨ n = 3 → judge_Router_bx (some W) n = some [] := fun n h => by
    unfold judge_Router_bx world_World_Router
    rw [Option.bind_some, hw.2, if_neg (by decide), hr]
    rcases h with rfl | rfl
    · rw [show world_World_router W 2 = some 1 by kernel_rfl, Option.bind_some, Option.bind_some]; rfl
    · rw [show world_World_router W 3 = some 2 by kernel_rfl, Option.bind_some, Option.bind_some]; rfl
  have hnow : world_World_Now_bx (some W) = some 0 := by
    unfold world_World_Now_bx
    rw [hw.1, Option.bind_some, if_neg (by decide), Option.bind_some, hn]
  have hmail : world_World_Mail_bx (some W) = some [] := by
    unfold world_World_Mail_bx
    rw [hw.1, Option.bind_some, if_neg (by decide), Option.bind_some, grd_pos (by unfold okS; simp)]
    unfold slc
    simp
  have hrun : script_Run ⟨1, 0, 31, 0⟩ [] = some (some W, 0) := by
    unfold script_Run
    rw [if_neg (by decide), hW, Option.bind_some, if_neg (by simp), if_neg (by decide)]
  unfold driver_Main
  rw [read0, Option.bind_some, if_neg (by decide), hrun, Option.bind_some, if_neg (by simp), hnow, Option.bind_some, hmail, Option.bind_some, Option.bind_some, if_neg (by rw [s0]; decide), hs]
  dsimp only
  rw [ev0, Option.bind_some, st0, Option.bind_some, Option.bind_some, fits0, Option.bind_some, if_pos rfl, Option.bind_some, whole0, Option.bind_some, Option.bind_some]
  dsimp only
  rw [Option.bind_some, if_neg (by rw [s1]; decide), hs]
  dsimp only
  rw [ev1, Option.bind_some, if_pos rfl, st1, Option.bind_some, Option.bind_some, fits1, Option.bind_some, if_pos rfl, Option.bind_some, whole1, Option.bind_some, Option.bind_some, u 0 (.inl rfl), Option.bind_some, count0, Option.bind_some, well0, Option.bind_some, u 1 (.inr rfl), Option.bind_some, count0, Option.bind_some, if_pos rfl, well0, Option.bind_some, Option.bind_some]
  dsimp only
  rw [if_pos rfl, v 2 (.inl rfl), Option.bind_some, well0, Option.bind_some, Option.bind_some, if_pos rfl, v 3 (.inr rfl), Option.bind_some, well0, Option.bind_some, Option.bind_some]
  rfl
theorem zero_dec : driver_decimal 0 = some ⟨#[48]⟩ := by
  have hp : text_Put ⟨0, 0, 0, 0⟩ = some ⟨#[48]⟩ := by
    have key : Tt (text_Put ⟨0, 0, 0, 0⟩) (fun r => r = ⟨#[48]⟩) := by
      unfold text_Put
      refine .loopW (fun _ s => s = (⟨#[]⟩, ⟨0, 0, 0, 0⟩)) (fun _ => False) 0 rfl (fun _ s hs => ?_) fun s hs => hs.elim
      subst hs
      refine .bind (wdiv10 ⟨0, 0, 0, 0⟩) fun r hr => ?_
      obtain ⟨e, hd⟩ := hr
      have z0 : wv ⟨0, 0, 0, 0⟩ = 0 := by decide
      rw [z0] at e
      have h1 := wv_zero (a := r.1) (by omega)
      have h2 : r.2.1 = 0 := UInt64.toNat_inj.1 (show r.2.1.toNat = 0 by omega)
      rw [h1, h2]
      exact ⟨.rt ⟨#[48]⟩, by kernel_rfl, rfl⟩
    obtain ⟨r, hr, rfl⟩ := key; exact hr
  unfold driver_decimal
  have hu : wide_Of (Ui 0) = ⟨0, 0, 0, 0⟩ := by kernel_rfl
  rw [if_neg (by decide), hu, hp]
  rfl
theorem alive34 : narrowslaw34_alive = some true := by
  unfold narrowslaw34_alive
  rw [main31, Option.bind_some, if_pos (by decide), if_pos rfl, if_pos rfl, line_ok _ zero_dec zero_dec zero_dec zero_dec zero_dec zero_dec (by decide) (by decide) (by decide) (by decide) (by decide) (by decide), Option.bind_some, Option.bind_some]
  refine congrArg some (decide_eq_true (ba_ext ?_))
  rw [join8]
  kernel_rfl
theorem DriverLines_true (x : driver_Report) : ∃ r, narrowslaw34_DriverLines x = some r ∧ r = true := by
  show Tt _ (fun r => r = true)
  obtain ⟨t0, a0, b0, s0⟩ := dec_ok x.Now
  obtain ⟨t1, a1, b1, s1⟩ := dec_ok x.Events.a0
  obtain ⟨t2, a2, b2, s2⟩ := dec_ok x.Events.a1
  obtain ⟨t3, a3, b3, s3⟩ := dec_ok x.Mail
  obtain ⟨t4, a4, b4, s4⟩ := dec_ok x.Prepared
  obtain ⟨t5, a5, b5, s5⟩ := dec_ok x.Done
  have e0 : (⟨#[]⟩ : ByteArray).size = 0 := rfl
  have e1 : (⟨#[32]⟩ : ByteArray).size = 1 := rfl
  have e4 : (⟨#[121, 101, 115, 32]⟩ : ByteArray).size = 4 := rfl
  have e3 : (⟨#[110, 111, 32]⟩ : ByteArray).size = 3 := rfl
  have g : ∀ {n : Nat} {y : Option Bool}, n ≤ 10000 → Tt y (fun r => r = true) → Tt (grd (n ≤ 9223372036854775807) y) (fun r => r = true) := fun hn h => .grd (by omega) h
  unfold narrowslaw34_DriverLines
  rw [a0, Option.bind_some, a1, Option.bind_some, a2, Option.bind_some, a3, Option.bind_some, a4, Option.bind_some, a5, Option.bind_some]
  simp only [ByteArray.size_append, e0, e1, e3, e4]
  refine g (by omega) <| g (by omega) <| g (by omega) <| g (by omega) <| g (by omega) <| g (by omega) <| g (by omega) <| g (by omega) <| g (by omega) <| g (by omega) <| g (by omega) <| g (by omega) ?_
  refine .bind (P := fun y => y.size ≤ 1000 ∧ y.data.toList = t0.data.toList ++ 32 :: (t1.data.toList ++ 32 :: (t2.data.toList ++ 32 :: (t3.data.toList ++ 32 :: (t4.data.toList ++ 32 :: (t5.data.toList ++ 32 :: ((driver_yes x.Well).data.toList ++ [32]))))))) ?_ fun y hy => ?_
  · unfold driver_yes
    cases x.Well with
    | true =>
      rw [if_pos rfl]
      refine .grd (by omega) (.pure ⟨?_, ?_⟩)
      · simp only [ByteArray.size_append, e0, e1, e3, e4]; omega
      · simp only [ba_app]; simp
    | false =>
      rw [if_neg (by decide)]
      refine .grd (by omega) (.pure ⟨?_, ?_⟩)
      · simp only [ByteArray.size_append, e0, e1, e3, e4]; omega
      · simp only [ba_app]; simp
  refine .bind (P := fun z => z.size ≤ 2000 ∧ z.data.toList = y.data.toList ++ ((driver_yes x.Solvent).data.toList ++ [32])) ?_ fun z hz => ?_
  · unfold driver_yes
    cases x.Solvent with
    | true =>
      rw [if_pos rfl]
      refine .grd (by omega) (.pure ⟨?_, ?_⟩)
      · simp only [ByteArray.size_append, e4]; omega
      · simp only [ba_app]; simp
    | false =>
      rw [if_neg (by decide)]
      refine .grd (by omega) (.pure ⟨?_, ?_⟩)
      · simp only [ByteArray.size_append, e3]; omega
      · simp only [ba_app]; simp
  have hl := line_ok x b0 b1 b2 b3 b4 b5 s0 s1 s2 s3 s4 s5
  have hj := join8 t0 t1 t2 t3 t4 t5 (driver_yes x.Well) (driver_yes x.Solvent)
  rw [hl, Option.bind_some]
  generalize joined [t0, t1, t2, t3, t4, t5, driver_yes x.Well, driver_yes x.Solvent] sp = j at *
  have hzj : z = j ++ (⟨#[32]⟩ : ByteArray) := ba_ext (by rw [ba_app, hj, hz.2, hy.2]; simp)
  have hsz : j.size + 1 = z.size := by rw [hzj, ByteArray.size_append, e1]
  rw [grd_pos (by have := hz.1; omega), if_pos (decide_eq_true hzj.symm), alive34]
  exact .pure rfl
end Go.Sl
