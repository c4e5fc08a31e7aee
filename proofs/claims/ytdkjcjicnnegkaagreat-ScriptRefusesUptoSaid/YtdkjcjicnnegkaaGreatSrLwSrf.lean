/- Which steps can't be put, and how many; a beginning that ends within a step is none's. -/
import Derived.Test.YtdkjcjicnnegkaaGreatSrLwScr0
import Derived.Test.YtdkjcjicnnegkaaGreatSrLwNew
set_option linter.unusedVariables false
set_option linter.unusedSimpArgs false
namespace Go.Sl
/-- One step is put. -/
theorem Put1 (x : api_Step) : (okT x ∧ x.Data.length ≤ 1024 ∧ script_Put [x] = some (stE x, 0)) ∨ (okT x ∧ x.Data.length > 1024 ∧ script_Put [x] = some ([], 5)) ∨ (¬ okT x ∧ script_Put [x] = some ([], 4)) := by
  obtain ⟨b, hb, hok⟩ := odd_val x
  by_cases ho : okT x
  · obtain rfl : b = false := hok.2 ho
    by_cases hd : x.Data.length ≤ 1024
    · refine .inl ⟨ho, hd, ?_⟩
      have hw : okS' [x] := ⟨by simp, by simpa using ho, by simpa using hd, by simp [scE, stE_len]; omega⟩
      rw [Put_ok hw]
      simp [scE]
    · refine .inr (.inl ⟨ho, by omega, ?_⟩)
      unfold script_Put
      rw [if_neg (by simp)]
      simp only [loopR, hb, Option.bind_some, Bool.false_eq_true, if_false, Lo.on]
      rw [if_pos (decide_eq_true (by omega))]
      rfl
  · have : b = true := by
      cases b with
      | true => rfl
      | false => exact absurd (hok.1 rfl) ho
    subst this
    refine .inr (.inr ⟨ho, ?_⟩)
    unfold script_Put
    rw [if_neg (by simp)]
    simp only [loopR, hb, Option.bind_some, if_true, Option.map_some, Lo.on]
theorem ok0 : okT ⟨0, 0, 0, 0, []⟩ := ⟨by decide, by decide, ⟨by decide, by decide⟩, ⟨by decide, by decide⟩, ⟨by decide, by decide⟩⟩
theorem rep_len : ∀ n, (scE (List.replicate n (⟨0, 0, 0, 0, []⟩ : api_Step))).length = 9 * n
  | 0 => rfl
  | n + 1 => by
    have := rep_len n
    unfold scE at *
    rw [List.replicate_succ, List.map_cons, List.flatten_cons, List.length_append, this, stE_len]
    simp; omega
theorem PutN {n : Nat} (h : n ≤ 513) : ∃ r, script_Put (List.replicate n (⟨0, 0, 0, 0, []⟩ : api_Step)) = some r ∧ (decide (r.2 = 3)) = decide (n > 512) := by
  by_cases hn : n ≤ 512
  · have hw : okS' (List.replicate n (⟨0, 0, 0, 0, []⟩ : api_Step)) := ⟨by simpa using hn, fun x hx => by rw [List.eq_of_mem_replicate hx]; exact ok0, fun x hx => by rw [List.eq_of_mem_replicate hx]; decide, by rw [rep_len]; omega⟩
    rw [Put_ok hw]
    exact ⟨_, rfl, by simp; omega⟩
  · unfold script_Put
    rw [if_pos (decide_eq_true (by simp; omega))]
    exact ⟨_, rfl, by simp; omega⟩
theorem step0 {W : world_World} (h : W.since = some []) : world_World_Step_bx (some W) (⟨0, 0, 0, 0, []⟩ : api_Step) = some (some W) := by
  have hi : world_World_is_bx (some W) = some true := by
    unfold world_World_is_bx
    simp only [Option.isSome_some, if_true, Option.bind_some, h]
  unfold world_World_Step_bx
  rw [hi, Option.bind_some]
  rfl
theorem RunN {n : Nat} (h : n ≤ 513) : Tt (script_Run ⟨1, 0, 31, 0⟩ (List.replicate n (⟨0, 0, 0, 0, []⟩ : api_Step))) (fun r => (decide (r.2 = 3)) = decide (n > 512)) := by
  unfold script_Run
  refine .ite (fun hp => .pure ?_) fun hp => ?_
  · rw [decide_eq_true_iff] at hp
    simp at hp ⊢; omega
  · rw [decide_eq_false_iff_not] at hp
    have ho : okSu ⟨1, 0, 31, 0⟩ := by unfold okSu; decide
    obtain ⟨r, hr, h0, W, hW, hm⟩ := New_ok ho
    rw [hr, Option.bind_some, h0, hW]
    refine .ite (fun hq => by simp at hq) fun _ => ?_
    refine Tt.loopR (fun i s => s = some W) rfl ?_ fun s hs => .pure ?_
    · rintro i x s hx rfl
      obtain rfl : x = ⟨0, 0, 0, 0, []⟩ := List.eq_of_mem_replicate (List.mem_of_getElem? hx)
      rw [step0 hm.since, Option.bind_some]
      exact .pure rfl
    · simp at hp ⊢; omega
/-- A beginning of one step's octets is read when it is nothing alone. -/
theorem ReadCut {x : api_Step} (ho : okT x) (hd : x.Data.length ≤ 1024) {a : Nat} (ha : a < (stE x).length) : ∃ r, script_Read ((stE x).take a) = some r ∧ decide (r.2 = 0) = decide (a = 0) := by
  obtain ⟨l, e, hr, h1, h2⟩ := Read_any ((stE x).take a)
  refine ⟨(l, e), hr, ?_⟩
  by_cases h0 : a = 0
  · subst h0
    have hw : okS' [] := ⟨by simp, by simp, by simp, by simp [scE]⟩
    have := Read_enc hw
    rw [show scE [] = (stE x).take 0 from rfl, hr] at this
    cases this
    rfl
  · rw [decide_eq_false h0, decide_eq_false_iff_not]
    intro he
    obtain ⟨hw, hs⟩ := h2 he
    cases l with
    | nil =>
      have := congrArg List.length hs
      rw [List.length_take] at this
      simp only [scE, List.map_nil, List.flatten_nil, List.length_nil] at this
      omega
    | cons y l =>
      have hy : scE (y :: l) = stE y ++ scE l := by simp [scE]
      have hl : (scE l).length ≤ 8192 := by have := hw.o; rw [hy, List.length_append] at this; omega
      have e1 : stE x ++ [] = stE y ++ (scE l ++ (stE x).drop a) := by
        rw [← List.append_assoc, ← hy, hs, List.take_append_drop, List.append_nil]
      have hlen := stE_len x
      obtain ⟨_, h4⟩ := stE_inj_pre ho (hw.w y (by simp)) hd (hw.d y (by simp)) (by simp) (by
        have := congrArg List.length e1
        simp only [List.length_append, List.length_nil] at this
        simp only [List.length_append]
        omega) e1
      have := congrArg List.length h4
      simp only [List.length_append, List.length_nil, List.length_drop] at this
      omega
theorem ScriptRefuses_true (x : api_Step) (many at' : Int) (_ : x.Data.length ≤ 1048576) : ∃ r, narrowslaw25_ScriptRefuses x many at' = some r ∧ r = true := by
  show Tt _ (fun r => r = true)
  unfold narrowslaw25_ScriptRefuses
  rw [alive25, Option.bind_some, if_neg (by decide)]
  refine .thn' fun y5 h5 => .thn' fun y10 h10 => .thn' fun y21 h21 => .thn' fun y32 h32 => ?_
  have hout : y32 = false ↔ okT x := by
    have e5 : y5 = false ↔ (0 ≤ x.Kind ∧ x.Kind ≤ 255) := by
      subst h5
      by_cases h : x.Kind < 0
      · simp [h]; omega
      · simp [h]; omega
    have en : ∀ {y z : Bool} {m : Int}, (if y = true then true else (if (decide (m < (-32768))) = true then true else (decide (m > 32767)))) = z → (z = false ↔ (y = false ∧ okN m)) := by
      rintro y z m rfl
      unfold okN
      cases y with
      | true => simp
      | false =>
        by_cases h : m < -32768
        · simp [h]; omega
        · simp [h]; omega
    have a1 := en h10
    have a2 := en h21
    have a3 := en h32
    constructor
    · intro h
      obtain ⟨b1, b2⟩ := a3.1 h
      obtain ⟨c1, c2⟩ := a2.1 b1
      obtain ⟨d1, d2⟩ := a1.1 c1
      obtain ⟨e1, e2⟩ := e5.1 d1
      exact ⟨e1, e2, d2, c2, b2⟩
    · intro h
      exact a3.2 ⟨a2.2 ⟨a1.2 ⟨e5.2 ⟨h.k0, h.k1⟩, h.a⟩, h.b⟩, h.c⟩
  clear h5 h10 h21 h32
  rcases Put1 x with ⟨ho, hd, hp⟩ | ⟨ho, hd, hp⟩ | ⟨ho, hp⟩
  · rw [hp, Option.bind_some, hout.2 ho]
    refine .ite (fun h => by cases h) fun _ => .ite (fun h => by rw [decide_eq_true_iff] at h; omega) fun _ => ?_
    obtain ⟨n, hn, hn3⟩ : ∃ n : Nat, IntKind.i64.wrap (511 + (Int.tmod (IntKind.i64.wrap ((Int.tmod many 3) + 3)) 3)) = (n : Int) ∧ n ≤ 513 := by
      have h1 : -3 < Int.tmod many 3 := by have := Int.lt_tmod_of_pos many (show (0 : Int) < 3 by decide); omega
      have h2 : Int.tmod many 3 < 3 := Int.tmod_lt_of_pos many (by decide)
      rw [wrap64 (n := Int.tmod many 3 + 3) (by omega) (by omega)]
      have h3 : 0 ≤ Int.tmod (Int.tmod many 3 + 3) 3 := Int.tmod_nonneg 3 (by omega)
      have h4 : Int.tmod (Int.tmod many 3 + 3) 3 < 3 := Int.tmod_lt_of_pos _ (by decide)
      rw [wrap64 (by omega) (by omega)]
      exact ⟨(511 + Int.tmod (Int.tmod many 3 + 3) 3).toNat, by omega, by omega⟩
    rw [hn]
    have hl := stE_len x
    obtain ⟨a, ha, hal⟩ : ∃ a : Nat, Int.tmod (IntKind.i64.wrap ((Int.tmod at' ((stE x).length : Int)) + ((stE x).length : Int))) ((stE x).length : Int) = (a : Int) ∧ a < (stE x).length := by
      have hpos : (0 : Int) < ((stE x).length : Int) := by omega
      have h1 : -((stE x).length : Int) < Int.tmod at' ((stE x).length : Int) := Int.lt_tmod_of_pos at' hpos
      have h2 : Int.tmod at' ((stE x).length : Int) < ((stE x).length : Int) := Int.tmod_lt_of_pos at' hpos
      rw [wrap64 (by omega) (by omega)]
      have h3 : 0 ≤ Int.tmod (Int.tmod at' ((stE x).length : Int) + ((stE x).length : Int)) ((stE x).length : Int) := Int.tmod_nonneg _ (by omega)
      have h4 : Int.tmod (Int.tmod at' ((stE x).length : Int) + ((stE x).length : Int)) ((stE x).length : Int) < ((stE x).length : Int) := Int.tmod_lt_of_pos _ hpos
      exact ⟨(Int.tmod (Int.tmod at' ((stE x).length : Int) + ((stE x).length : Int)) ((stE x).length : Int)).toNat, by omega, by omega⟩
    dsimp only
    rw [ha]
    obtain ⟨r1, q1, e1⟩ := PutN hn3
    obtain ⟨r2, q2, e2⟩ := RunN hn3
    obtain ⟨r3, q3, e3⟩ := ReadCut ho hd hal
    have es : slc (stE x) 0 (a : Int).toNat = (stE x).take a := by simp [slc]
    have en : decide ((n : Int) > 512) = decide (n > 512) := decide_eq_decide.2 (by omega)
    have ea : decide ((a : Int) = 0) = decide (a = 0) := decide_eq_decide.2 (by omega)
    refine .grd (by omega) ?_
    rw [Int.toNat_natCast, q1, Option.bind_some]
    refine .grd (by omega) ?_
    rw [q2, Option.bind_some]
    refine .grd (by omega) (.grd (by omega) (.grd (by unfold okS; simp; omega) ?_))
    rw [es, q3, Option.bind_some, e1, e2, e3, en, ea, hl, wrap64 (by omega) (by omega)]
    simp only [thn]
    rw [if_pos (by simp), if_pos (by simp), if_pos (by simp), if_pos (by simp)]
    exact .pure (by simp)
  · rw [hp, Option.bind_some, hout.2 ho]
    refine .ite (fun h => by cases h) fun _ => .ite (fun h => ?_) fun h => by rw [decide_eq_false_iff_not] at h; omega
    exact .pure rfl
  · rw [hp, Option.bind_some]
    have : y32 = true := by
      cases y32 with
      | true => rfl
      | false => exact absurd (hout.1 rfl) ho
    subst this
    exact .pure rfl
end Go.Sl
