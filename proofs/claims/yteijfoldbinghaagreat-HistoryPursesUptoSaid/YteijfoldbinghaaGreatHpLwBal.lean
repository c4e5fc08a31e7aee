/- Balances, told by events. -/
import Derived.Test.YteijfoldbinghaaGreatHpLwPur2
set_option linter.unusedVariables false
set_option linter.unusedSimpArgs false
namespace Go.Sl
structure Tl (t t' : history_teller) (i o : Nat) : Prop where
  side : t'.side = t.side
  account : t'.account = t.account
  asset : t'.asset = t.asset
  inn : V t'.line.In = V t.line.In + i
  out : V t'.line.Out = V t.line.Out + o
theorem out_tl (t : history_teller) (x y : Int) (w : api_Wide) (h : V t.line.Out + d1 x y (V w) t.account t.asset < B256) : Tl t (history_teller_out t x y w) 0 (d1 x y (V w) t.account t.asset) := by
  unfold history_teller_out thn
  by_cases h1 : x = t.account
  · by_cases h2 : y = t.asset
    · subst h1 h2
      unfold d1 at h ⊢
      simp only [and_self, if_true] at h ⊢
      refine ⟨rfl, rfl, rfl, rfl, ?_⟩
      exact ((wide_Add_spec _ _).1 h).2
    · have : d1 x y (V w) t.account t.asset = 0 := by unfold d1; rw [if_neg]; rintro ⟨_, e⟩; exact h2 e.symm
      rw [this]
      simp [h1, h2]
      exact ⟨rfl, rfl, rfl, rfl, rfl⟩
  · have : d1 x y (V w) t.account t.asset = 0 := by unfold d1; rw [if_neg]; rintro ⟨e, _⟩; exact h1 e.symm
    rw [this]
    simp [h1]
    exact ⟨rfl, rfl, rfl, rfl, rfl⟩
theorem in_tl (t : history_teller) (x y : Int) (w : api_Wide) (h : V t.line.In + d1 x y (V w) t.account t.asset < B256) : Tl t (history_teller_in t x y w) (d1 x y (V w) t.account t.asset) 0 := by
  unfold history_teller_in thn
  by_cases h1 : x = t.account
  · by_cases h2 : y = t.asset
    · subst h1 h2
      unfold d1 at h ⊢
      simp only [and_self, if_true] at h ⊢
      refine ⟨rfl, rfl, rfl, ?_, rfl⟩
      exact ((wide_Add_spec _ _).1 h).2
    · have : d1 x y (V w) t.account t.asset = 0 := by unfold d1; rw [if_neg]; rintro ⟨_, e⟩; exact h2 e.symm
      rw [this]
      simp [h1, h2]
      exact ⟨rfl, rfl, rfl, rfl, rfl⟩
  · have : d1 x y (V w) t.account t.asset = 0 := by unfold d1; rw [if_neg]; rintro ⟨e, _⟩; exact h1 e.symm
    rw [this]
    simp [h1]
    exact ⟨rfl, rfl, rfl, rfl, rfl⟩
theorem Tl.trans {a b c : history_teller} {i o j p : Nat} (h : Tl a b i o) (k : Tl b c j p) : Tl a c (i + j) (o + p) :=
  ⟨k.side.trans h.side, k.account.trans h.account, k.asset.trans h.asset, by rw [k.inn, h.inn, Nat.add_assoc], by rw [k.out, h.out, Nat.add_assoc]⟩
theorem Tl.refl (a : history_teller) : Tl a a 0 0 := ⟨rfl, rfl, rfl, rfl, rfl⟩
theorem sub_V (a b : api_Wide) : V (wide_Sub a b).1 = V a - V b := by
  have h := wide_Sub_spec a b
  by_cases hle : V b ≤ V a
  · exact (h.1 hle).2
  · rw [h.2 (by omega)]
    show V W0 = _
    rw [V_zero]; omega
theorem deal_tl {M : Nat} (t : history_teller) (x : api_Tx) (hs : t.side = 0 ∨ t.side = 1) (h1 : V t.line.In = 0) (h2 : V t.line.Out ≤ 1) (hM : M + 1 < B256) (k : x.Kind ≠ 1 ∧ x.Kind ≠ 2 ∧ x.Kind ≠ 3)
    (hi : mvI t.side x t.account t.asset ≤ M) (ho : mvO t.side x t.account t.asset ≤ M) : Tl t (history_teller_deal t x) (mvI t.side x t.account t.asset) (mvO t.side x t.account t.asset) := by
  obtain ⟨k1, k2, k3⟩ := k
  unfold history_teller_deal thn
  by_cases k4 : x.Kind = 4
  · have e1 : mvI t.side x t.account t.asset = 0 := by unfold mvI; simp [k4]
    have e2 : mvO t.side x t.account t.asset = pO t.side x t.account t.asset := by unfold mvO; simp [k4]
    rw [e1]; rw [e2] at ho ⊢
    rcases hs with hs | hs
    · have e3 : pO t.side x t.account t.asset = d1 x.Inv.User x.Inv.Send (V x.Var.Amount) t.account t.asset := by unfold pO; rw [if_neg (by omega)]
      rw [e3] at ho ⊢
      simp only [k4, hs, decide_true, if_true]
      exact out_tl _ _ _ _ (by omega)
    · have e3 : pO t.side x t.account t.asset = 0 := by unfold pO; rw [if_pos hs]
      rw [e3]
      simp [k4, hs]
      exact .refl _
  · by_cases k5 : x.Kind = 5
    · have e1 : mvI t.side x t.account t.asset = fI t.side x t.account t.asset := by unfold mvI; simp [k5]
      have e2 : mvO t.side x t.account t.asset = 0 := by unfold mvO; simp [k5]
      rw [e2]; rw [e1] at hi ⊢
      rcases hs with hs | hs
      · have e3 : fI t.side x t.account t.asset = 0 := by unfold fI; rw [if_neg (by omega)]
        rw [e3]
        simp [k5, hs]
        exact .refl _
      · have e3 : fI t.side x t.account t.asset = d1 x.Inv.To x.Inv.Recv (V (wide_Sub x.Var.Amount x.Fee).1) t.account t.asset + d1 x.From x.Inv.Recv (V x.Fee) t.account t.asset := by unfold fI; rw [if_pos hs, sub_V]
        rw [e3] at hi ⊢
        have g1 := in_tl t x.Inv.To x.Inv.Recv (wide_Sub x.Var.Amount x.Fee).1 (by omega)
        have g2 := in_tl (history_teller_in t x.Inv.To x.Inv.Recv (wide_Sub x.Var.Amount x.Fee).1) x.From x.Inv.Recv x.Fee (by rw [g1.inn, g1.account, g1.asset]; omega)
        rw [g1.account, g1.asset] at g2
        have := g1.trans g2
        simp only [k5, hs, decide_true, if_true, show decide ((5 : Int) = 4) = false from rfl, Bool.false_eq_true, if_false]
        exact this
    · by_cases k6 : x.Kind = 6
      · have e1 : mvI t.side x t.account t.asset = pO t.side x t.account t.asset := by unfold mvI; simp [k6]
        have e2 : mvO t.side x t.account t.asset = 0 := by unfold mvO; simp [k6]
        rw [e2]; rw [e1] at hi ⊢
        rcases hs with hs | hs
        · have e3 : pO t.side x t.account t.asset = d1 x.Inv.User x.Inv.Send (V x.Var.Amount) t.account t.asset := by unfold pO; rw [if_neg (by omega)]
          rw [e3] at hi ⊢
          have := in_tl t x.Inv.User x.Inv.Send x.Var.Amount (by omega)
          simp only [k6, hs, decide_true, if_true, show decide ((6 : Int) = 4) = false from rfl, show decide ((6 : Int) = 5) = false from rfl, Bool.false_eq_true, if_false]
          exact this
        · have e3 : pO t.side x t.account t.asset = 0 := by unfold pO; rw [if_pos hs]
          rw [e3]
          simp [k6, hs]
          exact .refl _
      · have e1 : mvI t.side x t.account t.asset = 0 := by unfold mvI; simp [k1, k3, k5, k6]
        have e2 : mvO t.side x t.account t.asset = 0 := by unfold mvO; simp [k1, k2, k4]
        rw [e1, e2]
        simp [k4, k5, k6]
        exact .refl _
theorem line_sp {M : Nat} {s a b : Int} (e : api_Event) (hs : s = 0 ∨ s = 1) (hM : M + 1 < B256) (hb : e.Code = 0 → mvI s e.Tx a b ≤ M ∧ mvO s e.Tx a b ≤ M) :
    V (lineOf s a b e).In = (if e.Code = 0 then mvI s e.Tx a b else 0) ∧ V (lineOf s a b e).Out = d1 e.Tx.From 0 1 a b + (if e.Code = 0 then mvO s e.Tx a b else 0) := by
  have hf : d1 e.Tx.From 0 1 a b ≤ 1 := d1_le (Nat.le_refl _)
  have g0 := out_tl ⟨s, a, b, ⟨e.Time, e.Tx.Kind, W0, W0⟩⟩ e.Tx.From 0 (wide_Of 1) (by rw [V_Of1]; show V W0 + d1 e.Tx.From 0 1 a b < B256; rw [V_zero]; omega)
  rw [V_Of1] at g0
  unfold lineOf history_teller_tell
  by_cases hc : e.Code = 0
  · obtain ⟨hi, ho⟩ := hb hc
    simp only [hc, ne_eq, not_true_eq_false, decide_false, Bool.false_eq_true, if_false, if_true, thn]
    generalize history_teller_out ⟨s, a, b, ⟨e.Time, e.Tx.Kind, W0, W0⟩⟩ e.Tx.From 0 (wide_Of 1) = t at g0 ⊢
    have ha := g0.account; have hb' := g0.asset; have hsd := g0.side
    have hin := g0.inn; have hout := g0.out
    dsimp only at ha hb' hsd hin hout
    rw [V_zero] at hin hout
    have key : ∀ t' : history_teller, Tl t t' (mvI s e.Tx a b) (mvO s e.Tx a b) → V t'.line.In = mvI s e.Tx a b ∧ V t'.line.Out = d1 e.Tx.From 0 1 a b + mvO s e.Tx a b := fun t' h => ⟨by rw [h.inn, hin]; omega, by rw [h.out, hout]; omega⟩
    apply key
    by_cases k1 : e.Tx.Kind = 1
    · have e1 : mvI s e.Tx a b = d1 e.Tx.Inv.To e.Tx.Asset (V e.Tx.Amount) a b := by unfold mvI; rw [if_pos k1]
      have e2 : mvO s e.Tx a b = d1 e.Tx.From e.Tx.Asset (V e.Tx.Amount) a b := by unfold mvO; rw [if_pos k1]
      rw [e1] at hi ⊢; rw [e2] at ho ⊢
      rw [if_pos (decide_eq_true k1)]
      have f1 := out_tl t e.Tx.From e.Tx.Asset e.Tx.Amount (by rw [ha, hb']; omega)
      rw [ha, hb'] at f1
      have f2 := in_tl (history_teller_out t e.Tx.From e.Tx.Asset e.Tx.Amount) e.Tx.Inv.To e.Tx.Asset e.Tx.Amount (by rw [f1.inn, f1.account, f1.asset, ha, hb']; omega)
      rw [f1.account, f1.asset, ha, hb'] at f2
      have := f1.trans f2
      rw [Nat.zero_add, Nat.add_zero] at this
      exact this
    rw [if_neg (by simpa using k1)]
    by_cases k2 : e.Tx.Kind = 2
    · have e1 : mvI s e.Tx a b = 0 := by unfold mvI; simp [k2]
      have e2 : mvO s e.Tx a b = d1 e.Tx.From e.Tx.Asset (V e.Tx.Amount) a b := by unfold mvO; simp [k2]
      rw [e1]; rw [e2] at ho ⊢
      rw [if_pos (decide_eq_true k2)]
      have f1 := out_tl t e.Tx.From e.Tx.Asset e.Tx.Amount (by rw [ha, hb']; omega)
      rw [ha, hb'] at f1
      exact f1
    rw [if_neg (by simpa using k2)]
    by_cases k3 : e.Tx.Kind = 3
    · have e1 : mvI s e.Tx a b = d1 e.Tx.From e.Tx.Asset (V e.Tx.Amount) a b := by unfold mvI; simp [k3]
      have e2 : mvO s e.Tx a b = 0 := by unfold mvO; simp [k3]
      rw [e2]; rw [e1] at hi ⊢
      rw [if_pos (decide_eq_true k3)]
      have f1 := in_tl t e.Tx.From e.Tx.Asset e.Tx.Amount (by rw [ha, hb']; omega)
      rw [ha, hb'] at f1
      exact f1
    rw [if_neg (by simpa using k3)]
    have := deal_tl (M := M) t e.Tx (by rw [hsd]; exact hs) (by omega) (by omega) hM ⟨k1, k2, k3⟩ (by rw [hsd, ha, hb']; exact hi) (by rw [hsd, ha, hb']; exact ho)
    rw [hsd, ha, hb'] at this
    exact this
  · simp only [hc, ne_eq, not_false_eq_true, decide_true, if_true, if_false]
    have hin := g0.inn; have hout := g0.out
    dsimp only at hin hout
    rw [V_zero] at hin hout
    exact ⟨by rw [hin], by rw [hout]; omega⟩
noncomputable def sI (s a b : Int) (l : List api_Event) : Nat := (l.map fun e => V (lineOf s a b e).In).sum
noncomputable def sO (s a b : Int) (l : List api_Event) : Nat := (l.map fun e => V (lineOf s a b e).Out).sum
theorem sI_snoc (s a b : Int) (l : List api_Event) (e : api_Event) : sI s a b (l ++ [e]) = sI s a b l + V (lineOf s a b e).In := by simp [sI]
theorem sO_snoc (s a b : Int) (l : List api_Event) (e : api_Event) : sO s a b (l ++ [e]) = sO s a b l + V (lineOf s a b e).Out := by simp [sO]
theorem hl_cons (s a b : Int) (e : api_Event) (l : List api_Event) : hl s a b (e :: l) = if seen (lineOf s a b e) = true then lineOf s a b e :: hl s a b l else hl s a b l := by
  unfold hl
  rw [List.map_cons, List.filter_cons]
theorem hl_sum (s a b : Int) (l : List api_Event) : sumV ((hl s a b l).map history_Line.In) = sI s a b l ∧ sumV ((hl s a b l).map history_Line.Out) = sO s a b l := by
  induction l with
  | nil => exact ⟨rfl, rfl⟩
  | cons e l ih =>
    rw [hl_cons]
    unfold sI sO at *
    by_cases h : seen (lineOf s a b e) = true
    · rw [if_pos h]
      unfold sumV at *
      simp [ih.1, ih.2]
      exact ⟨by rw [← ih.1]; simp, by rw [← ih.2]; simp⟩
    · rw [if_neg h]
      unfold seen at h
      simp at h
      rw [ih.1, ih.2]
      have z1 : V (lineOf s a b e).In = 0 := by rw [h.1]; exact V_zero
      have z2 : V (lineOf s a b e).Out = 0 := by rw [h.2]; exact V_zero
      simp [z1, z2]
theorem V_1000 : V (wide_Of 1000) = 1000 := by unfold wide_Of; decide
theorem Balance_val {l : List api_Event} {sd a b : Int} (hv : purse_at a b = true) (hl9 : l.length ≤ 1000) (h1 : 1000 + sI (bandK .i64 sd 1) a b l < B256) (h2 : sO (bandK .i64 sd 1) a b l ≤ 1000 + sI (bandK .i64 sd 1) a b l) :
    ∃ c, history_Balance l sd a b = some (c, true) ∧ V c = 1000 + sI (bandK .i64 sd 1) a b l - sO (bandK .i64 sd 1) a b l := by
  obtain ⟨r, hr, hrl⟩ := Of_spec l sd a b (by omega)
  have hs := hl_sum (bandK .i64 sd 1) a b l
  have hlen := hl_len (bandK .i64 sd 1) a b l
  rw [← hrl] at hs hlen
  generalize bandK .i64 sd 1 = s at *
  have key : Tt (history_Balance l sd a b) (fun x => x.2 = true ∧ V x.1 = 1000 + sI s a b l - sO s a b l) := by
    unfold history_Balance
    obtain ⟨⟨q1, q2⟩, q3, q4⟩ := at_iff.1 hv
    have e1 : decide (a < 0) = false := decide_eq_false (by omega)
    have e2 : decide (a ≥ 8) = false := decide_eq_false (by omega)
    have e3 : decide (b < 0) = false := decide_eq_false (by omega)
    have e4 : decide (b ≥ 2) = false := decide_eq_false (by omega)
    simp only [e1, e2, e3, e4, Bool.false_eq_true, if_false, thn]
    rw [hr, Option.bind_some]
    refine Tt.loopR (fun i st => st.1 = (r.take i).map history_Line.Out ∧ st.2 = wide_Of 1000 :: (r.take i).map history_Line.In) ⟨by simp, by simp⟩ ?_ ?_
    · rintro i x ⟨p, q⟩ hx ⟨hp, hq⟩
      dsimp only at hp hq ⊢
      have hi : i < r.length := (List.getElem?_eq_some_iff.1 hx).1
      refine .grd (by rw [hq]; simp; omega) (.grd (by rw [hp]; simp; omega) (.pure ⟨?_, ?_⟩))
      · rw [take_succ' hx, hp]; simp
      · rw [take_succ' hx, hq]; simp
    · rintro ⟨p, q⟩ ⟨hp, hq⟩
      dsimp only at hp hq ⊢
      rw [List.take_length] at hp hq
      have sp : sumV p = sO s a b l := by rw [hp]; exact hs.2
      have sq : sumV q = 1000 + sI s a b l := by
        rw [hq]
        show V (wide_Of 1000) + sumV (r.map history_Line.In) = _
        rw [V_1000, hs.1]
      obtain ⟨x, hx, hx1, _⟩ := wide_Sum_spec q
      obtain ⟨y, hy, hy1, _⟩ := wide_Sum_spec p
      obtain ⟨x2, xv⟩ := hx1 (by omega)
      obtain ⟨y2, yv⟩ := hy1 (by omega)
      rw [hx, Option.bind_some, hy, Option.bind_some, x2, y2]
      have hsub := (wide_Sub_spec x.1 y.1).1 (by omega)
      rw [hsub.1]
      refine .pure ⟨rfl, ?_⟩
      dsimp only
      rw [hsub.2, xv, yv, sq, sp]
  obtain ⟨⟨c, t⟩, hc, h3, h4⟩ := key
  dsimp only at h3 h4
  subst h3
  exact ⟨c, hc, h4⟩
end Go.Sl
