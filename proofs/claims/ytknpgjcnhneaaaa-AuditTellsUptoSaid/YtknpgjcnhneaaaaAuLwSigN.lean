/- Signatures come to something (without digests). -/
import Derived.Test.YtknpgjcnhneaaaaAuLwHash2
set_option linter.unusedVariables false
set_option linter.unusedSimpArgs false
namespace Go.Sl
theorem wloop {Q : List UInt8 → Prop} {k : Int × List UInt8 → Option (List UInt8)} (x : UInt64) (l0 : List UInt8) (h : l0.length ≤ 1000) (fin : ∀ s : Int × List UInt8, s.2.length = l0.length + 8 → Tt (k s) Q) :
    Tt (Option.bind (loopW (fun (s12 : Int × (List UInt8)) => if (decide (s12.1 ≥ 0)) = true then (grd (0 ≤ s12.1) <| grd ((s12.2.length + ([B8i ((rshU x s12.1).toNat : Int)] : List UInt8).length) * 1 ≤ 140737488355328) <| some (.nx ((IntKind.i64.wrap (s12.1 - 8), (s12.2 ++ ([B8i ((rshU x s12.1).toNat : Int)] : List UInt8)))))) else (some (.br (s12.1, s12.2)))) (56, l0)) fun o14 => Lo.on o14 k) Q := by
  refine Tt.loopW (fun j s => s.1 = 8 * (j : Int) - 8 ∧ j ≤ 8 ∧ s.2.length = l0.length + (8 - j)) (fun s => s.2.length = l0.length + 8) 8 ⟨rfl, by omega, by simp⟩ ?_ fin
  rintro j ⟨i, l⟩ ⟨rfl, hj, hl⟩
  dsimp only at *
  refine .ite (fun hp => ?_) (fun hp => .pure ?_)
  · rw [decide_eq_true_iff] at hp
    refine .grd hp (.grd (by simp; omega) (.pure ⟨j - 1, by omega, ?_, by omega, by simp; omega⟩))
    dsimp only
    rw [wrap64 (by omega) (by omega)]; omega
  · rw [decide_eq_false_iff_not] at hp
    show l.length = _
    omega
theorem Wide_spec (a : api_Wide) : ∃ r, blob_Wide a = some r ∧ r.length = 32 := by
  unfold blob_Wide
  refine wloop (Q := fun r => r.length = 32) a.a3 [] (by simp) fun s1 h1 => ?_
  refine wloop (Q := fun r => r.length = 32) a.a2 s1.2 (by simp at h1; omega) fun s2 h2 => ?_
  refine wloop (Q := fun r => r.length = 32) a.a1 s2.2 (by simp at h1; omega) fun s3 h3 => ?_
  refine wloop (Q := fun r => r.length = 32) a.a0 s3.2 (by simp at h1; omega) fun s4 h4 => ?_
  exact .pure (by simp at h1; omega)
theorem WideO_spec {o : field_Out} {a : api_Wide} (ho : Okf o) : ∃ o', field_Out_Wide o a = some o' ∧ Okf o' := by
  unfold field_Out_Wide
  obtain ⟨r, hr, hl⟩ := Wide_spec a
  obtain ⟨o', h1, h2⟩ := put_spec (o := o) (b := r) (e := 0) ho (by omega)
  rw [hr, Option.bind_some, h1]
  exact ⟨_, rfl, h2⟩
theorem okNew : Okf field_New := by unfold field_New Okf; simp
theorem Payload_spec (act : Int) (key : ByteArray) (fee : api_Wide) (hk : key.size ≤ 1048576) : ∃ r, deal_Payload act key fee = some r ∧ r.length ≤ 8192 := by
  unfold deal_Payload
  refine Tt.thn (Q := fun r : List UInt8 => r.length ≤ 8192) (.ite (fun _ => .pure (by simp)) fun _ => ?_)
  obtain ⟨o1, e1, k1⟩ := Text_spec (s := ⟨#[97, 99, 116]⟩) okNew (by decide)
  obtain ⟨o2, e2, k2⟩ := NumO_spec (n := act) k1
  obtain ⟨o3, e3, k3⟩ := Text_spec (s := key) k2 hk
  obtain ⟨o4, e4, k4⟩ := WideO_spec (a := fee) k3
  obtain ⟨r, hr, hl⟩ := Done_spec k4
  rw [e1, Option.bind_some, e2, Option.bind_some, e3, Option.bind_some, e4, Option.bind_some, hr, Option.bind_some]
  exact ⟨_, rfl, hl⟩
theorem Cut_spec {a : List UInt8} {n : Nat} (h : a.length = 8 * n) (hn : n ≤ 100000) : ∃ r, blob_Cut a 8 = some r ∧ r.length = n ∧ ∀ x ∈ r, x.length = 8 := by
  unfold blob_Cut slices_Chunk_byte
  refine Tt.thn (Q := fun r : List (List UInt8) => r.length = n ∧ ∀ x ∈ r, x.length = 8) ?_
  simp only [show decide ((8 : Int) < 1) = false from rfl, Bool.false_eq_true, if_false, Option.bind_some]
  refine Tt.loopW (fun k s => ∃ i : Nat, s.1 = ((8 * i : Nat) : Int) ∧ i ≤ n ∧ k = n - i ∧ s.2.length = i ∧ ∀ x ∈ s.2, x.length = 8) (fun s => s.2.length = n ∧ ∀ x ∈ s.2, x.length = 8) n ⟨0, rfl, by omega, by omega, rfl, by simp⟩ ?_ ?_
  · rintro k ⟨m, l⟩ ⟨i, rfl, hi, rfl, hl, hx⟩
    dsimp only at *
    refine .ite (fun hp => ?_) (fun hp => .pure ?_)
    · rw [decide_eq_true_iff] at hp
      have hlt : i < n := by omega
      have hsl : (slc a (((8 * i : Nat) : Int)).toNat a.length).length = a.length - 8 * i := by simp [slc]; omega
      have hge : ¬ (((slc a (((8 * i : Nat) : Int)).toNat a.length).length : Int) < 8) := by rw [hsl]; omega
      rw [if_neg hge, wrap64 (n := ((8 * i : Nat) : Int) + 8) (by omega) (by omega)]
      refine .grd (by unfold okS; simp; omega) (.grd (by unfold okS; simp; omega) ?_)
      unfold slices_Clone_byte
      have hs2 : (slc a (((8 * i : Nat) : Int)).toNat (((8 * i : Nat) : Int) + 8).toNat).length = 8 := by simp [slc]; omega
      rw [grd_pos (by rw [hs2]; simp), Option.bind_some]
      refine .grd (by simp [hl]; omega) (.pure ⟨n - (i + 1), by omega, i + 1, by dsimp only; omega, by omega, rfl, by simp [hl], ?_⟩)
      intro x hxm
      rcases List.mem_append.1 hxm with h1 | h1
      · exact hx x h1
      · simp at h1; subst h1; simpa using hs2
    · rw [decide_eq_false_iff_not] at hp
      have hlt : i = n := by omega
      subst hlt
      exact ⟨hl, hx⟩
  · rintro s hs
    exact .pure hs
theorem spread_spec (n : Int) (k : Nat) (hk : k ≤ 100) : ∃ r, ots_spread n (k : Int) = some r ∧ r.length = k := by
  unfold ots_spread
  rw [grd_pos (by omega)]
  have hl : (List.replicate (k : Int).toNat (0 : Int)).length = k := by simp
  rw [hl, wrap64 (by omega) (by omega)]
  refine Tt.loopW (S := fun r : List Int => r.length = k) (fun j (s : Int × List Int × List Int × Int) => s.1 = (j : Int) - 1 ∧ j ≤ k ∧ s.2.1.length = k) (fun s => s.2.1.length = k) k ⟨rfl, by omega, hl⟩ ?_ fun s hs => .pure hs
  rintro j ⟨i, l, l2, m⟩ ⟨rfl, hj, hl⟩
  dsimp only at *
  refine .ite (fun hp => ?_) (fun hp => .pure hl)
  rw [decide_eq_true_iff] at hp
  have hx : Tt (at_ l ((j : Int) - 1)) (fun _ => True) := .at_ (by omega) (by omega) fun _ _ => trivial
  refine .bind hx fun x _ => .bind hx fun y _ => .pure ⟨j - 1, by omega, ?_, by omega, by simpa using hl⟩
  dsimp only
  rw [wrap64 (by omega) (by omega)]; omega
theorem Digits_spec {t : List UInt8} (ht : t.length ≤ 1099511627776) : ∃ r, ots_Digits t = some r ∧ r.length = 15 := by
  unfold ots_Digits
  obtain ⟨s, hs, hl⟩ := Sum_spec ht
  rw [hs, Option.bind_some, grd_pos (by omega), Int_val, Option.bind_some]
  obtain ⟨a, ha, hal⟩ := spread_spec (bn ((s.take (3 : Int).toNat).take 7) : Int) 12 (by omega)
  have ha' : ots_spread (bn ((s.take (3 : Int).toNat).take 7) : Int) 12 = some a := ha
  rw [ha', Option.bind_some]
  refine Tt.loopR (S := fun r : List Int => r.length = 15) (fun _ _ => True) trivial (fun _ _ _ _ _ => .pure (by simp [CtP])) fun m _ => ?_
  obtain ⟨b, hb, hbl⟩ := spread_spec m 3 (by omega)
  have hb' : ots_spread m 3 = some b := hb
  rw [hb', Option.bind_some]
  exact .grd (by omega) (.pure (by simp [hal, hbl]))
theorem Cat_val {a : List (List UInt8)} (h : a.flatten.length ≤ 1099511627776) : blob_Cat a = some a.flatten := by
  have le : ∀ i, ((a.take i).flatten).length ≤ a.flatten.length := fun i => by
    have : a.flatten = (a.take i).flatten ++ (a.drop i).flatten := by rw [← List.flatten_append, List.take_append_drop]
    rw [this, List.length_append]; omega
  have tk : ∀ i x, a[i]? = some x → (a.take (i + 1)).flatten = (a.take i).flatten ++ x := fun i x hx => by rw [List.take_add_one, hx]; simp
  have key : Tt (blob_Cat a) (fun r => r = a.flatten) := by
    unfold blob_Cat slices_Concat_byte
    refine .bind (P := fun r => r = a.flatten) ?_ fun y hy => .pure hy
    refine Tt.loopR (fun i s => s = ((a.take i).flatten.length : Int)) (by simp) ?_ ?_
    · rintro i x s hx rfl
      have h1 := le (i + 1)
      rw [tk i x hx, List.length_append] at h1
      have e : IntKind.i64.wrap (((a.take i).flatten.length : Int) + (x.length : Int)) = ((a.take i).flatten.length : Int) + (x.length : Int) := wrap64 (by omega) (by omega)
      rw [e]
      refine .ite (fun hp => ?_) (fun _ => .pure ?_)
      · rw [decide_eq_true_iff] at hp; omega
      · show _ = _
        rw [tk i x hx, List.length_append]; rfl
    · rintro s rfl
      rw [List.take_length, Grow_val (by omega) (by omega), Option.bind_some]
      refine Tt.loopR (fun i s => s = (a.take i).flatten) (by simp) ?_ ?_
      · rintro i x s hx rfl
        have h1 := le (i + 1)
        rw [tk i x hx, List.length_append] at h1
        exact .grd (by omega) (.pure (tk i x hx).symm)
      · rintro s rfl
        rw [List.take_length]
        exact .pure rfl
  obtain ⟨r, hr, rfl⟩ := key
  exact hr
theorem Short1_spec {b : List UInt8} (hb : b.length ≤ 1099511627776) : ∃ r, hash_Short_n1 b = some r ∧ r.size = 8 := by
  unfold hash_Short_n1
  obtain ⟨r, hr, hs⟩ := Text1_spec hb
  rw [hr, Option.bind_some, grd_pos (by unfold okS; simp; omega)]
  exact ⟨_, rfl, by simp [hs]⟩
theorem Short_spec {b : List (List UInt8)} (hb : b.flatten.length ≤ 1099511627776) : ∃ r, hash_Short b = some r ∧ r.size = 8 := by
  unfold hash_Short hash_Text
  obtain ⟨s, hs, hl⟩ := Sum_spec hb
  rw [Cat_val hb, Option.bind_some, hs, Option.bind_some, Option.bind_some, grd_pos (by unfold okS; simp [ByteArray.size, hl])]
  exact ⟨_, rfl, by simp [ByteArray.size_extract, ByteArray.size, hl]⟩
theorem Short2_spec {a b : List UInt8} (hb : a.length + b.length ≤ 1099511627776) : ∃ r, hash_Short_n2 a b = some r ∧ r.size = 8 := by
  unfold hash_Short_n2 hash_Text_n2
  obtain ⟨s, hs, hl⟩ := Sum_spec (b := a ++ b) (by simpa using hb)
  rw [Cat2_spec hb, Option.bind_some, hs, Option.bind_some, Option.bind_some, grd_pos (by unfold okS; simp [ByteArray.size, hl])]
  exact ⟨_, rfl, by simp [ByteArray.size_extract, ByteArray.size, hl]⟩
theorem data_len (s : ByteArray) : s.data.toList.length = s.size := by simp <;> rfl
theorem Walk_spec {s : ByteArray} {n : Int} (h : s.size = 8) : ∃ r, ots_Walk s n = some r ∧ r.size = 8 := by
  unfold ots_Walk
  obtain ⟨m, hm, h3⟩ : ∃ m, (if (3 : Int) < (if 0 > n then 0 else n) then 3 else (if 0 > n then 0 else n)) = m ∧ m ≤ 3 := ⟨_, rfl, by split <;> omega⟩
  rw [hm]
  refine Tt.loopW (S := fun r : ByteArray => r.size = 8) (fun k s => ∃ i : Nat, s.1 = i ∧ k = 3 - i ∧ i ≤ 3 ∧ s.2.size = 8) (fun s => s.2.size = 8) 3 ⟨0, rfl, rfl, by omega, h⟩ ?_ fun s hs => .pure hs
  rintro k ⟨j, s⟩ ⟨i, rfl, rfl, hi, hs⟩
  dsimp only at *
  refine .ite (fun hp => ?_) (fun _ => .pure hs)
  rw [decide_eq_true_iff] at hp
  obtain ⟨r, hr, hl⟩ := Short1_spec (b := s.data.toList) (by rw [data_len]; omega)
  refine .grd (by omega) ?_
  rw [hr, Option.bind_some]
  refine .pure ⟨3 - (i + 1), by omega, i + 1, ?_, rfl, by omega, hl⟩
  dsimp only
  rw [wrap64 (by omega) (by omega)]; rfl
theorem flat8 {l : List (List UInt8)} (h : ∀ x ∈ l, x.length = 8) : l.flatten.length = 8 * l.length := by
  induction l with
  | nil => rfl
  | cons x l ih => rw [List.flatten_cons, List.length_append, h x (by simp), ih fun y hy => h y (by simp [hy])]; simp; omega
theorem closed_spec {ps : List ByteArray} {d : List Int} (hp : ∀ p ∈ ps, p.size = 8) (hl : ps.length ≤ 1000) (hd : ps.length ≤ d.length) : ∃ r, ots_closed ps d = some r ∧ r.size = 8 := by
  unfold ots_closed
  refine Tt.loopR (S := fun r : ByteArray => r.size = 8) (fun i s => s.length = i ∧ ∀ x ∈ s, x.length = 8) ⟨rfl, by simp⟩ ?_ ?_
  · rintro i p s hx ⟨hs, h8⟩
    have hi : i < ps.length := (List.getElem?_eq_some_iff.1 hx).1
    refine .bind (Tt.at1 (by omega) (by omega)) fun x _ => ?_
    obtain ⟨r, hr, hrs⟩ := Walk_spec (n := IntKind.i64.wrap (3 - x)) (hp p (List.mem_of_getElem? hx))
    rw [hr, Option.bind_some]
    refine .grd (by omega) (.grd (by simp [hs]; omega) (.pure ⟨by simp [hs], fun y hy => ?_⟩))
    rcases List.mem_append.1 hy with h1 | h1
    · exact h8 y h1
    · simp at h1; subst h1; rw [data_len]; exact hrs
  · rintro s ⟨hs, h8⟩
    obtain ⟨r, hr, hrs⟩ := Short_spec (b := s) (by rw [flat8 h8]; omega)
    rw [hr, Option.bind_some]
    exact .pure hrs
theorem odd8 {ps : List ByteArray} : ∃ b, slices_ContainsFunc_string_ots_Open_1 ps = some b := by
  have : Tt (slices_ContainsFunc_string_ots_Open_1 ps) (fun _ => True) := by
    unfold slices_ContainsFunc_string_ots_Open_1 slices_IndexFunc_string_ots_Open_1
    refine .bind (P := fun _ => True) ?_ fun _ _ => .pure trivial
    exact Tt.loopR (fun _ _ => True) trivial (fun _ _ _ _ _ => .ite (fun _ => .map (.pure (Q := fun _ => True) trivial) fun _ _ => trivial) fun _ => .pure trivial) fun _ _ => .pure trivial
  obtain ⟨b, hb, _⟩ := this
  exact ⟨b, hb⟩
theorem Open_spec {t : List UInt8} {ps : List ByteArray} (ht : t.length ≤ 1099511627776) (hp : ∀ p ∈ ps, p.size = 8) : ∃ r, ots_Open t ps = some r ∧ r.size ≤ 8 := by
  unfold ots_Open
  obtain ⟨b, hb⟩ := odd8 (ps := ps)
  rw [hb, Option.bind_some]
  by_cases h : (ps.length : Int) ≠ 15
  · simp only [thn, decide_eq_true h, if_true]
    exact ⟨_, rfl, by decide⟩
  · refine Tt.thn (Q := fun r : ByteArray => r.size ≤ 8) (.ite (fun _ => .pure (by decide)) fun _ => ?_)
    obtain ⟨d, hd, hdl⟩ := Digits_spec ht
    obtain ⟨r, hr, hrs⟩ := closed_spec (d := d) hp (by omega) (by omega)
    rw [hd, Option.bind_some, hr, Option.bind_some]
    exact .pure (by omega)
theorem join_spec {a b : ByteArray} (h : a.size ≤ 1000) (h2 : b.size ≤ 1000) : ∃ r, mss_join a b = some r ∧ r.size = 8 := by
  unfold mss_join
  obtain ⟨r, hr, hs⟩ := Short2_spec (a := a.data.toList) (b := b.data.toList) (by rw [data_len, data_len]; omega)
  rw [grd_pos (by omega), grd_pos (by omega), hr]
  exact ⟨_, rfl, hs⟩
theorem climb_spec {s : ByteArray} {n : Int} {l : List (List UInt8)} (hs : s.size ≤ 8) (hl : ∀ x ∈ l, x.length = 8) : ∃ r, mss_climb s n l = some r := by
  have : Tt (mss_climb s n l) (fun _ => True) := by
    unfold mss_climb
    refine Tt.loopR (fun _ s => s.1.size ≤ 8) hs ?_ fun _ _ => .pure trivial
    rintro i x ⟨s, m⟩ hx hs
    dsimp only at *
    have h8 := hl x (List.mem_of_getElem? hx)
    have hb : ((⟨⟨x⟩⟩ : ByteArray)).size = 8 := h8
    refine .bind (P := fun r => r.size = 8) (.ite (fun _ => ?_) (fun _ => ?_)) fun y hy => .pure ?_
    · exact .bind (join_spec (by omega) (by omega)) fun r hr => .pure hr
    · exact .bind (join_spec (by omega) (by omega)) fun r hr => .pure hr
    · show y.size ≤ 8; omega
  obtain ⟨r, hr, _⟩ := this
  exact ⟨r, hr⟩
theorem bat_some {z : ByteArray} (h : 0 < z.size) : ∃ x, bat z 0 = some x := by
  unfold bat
  rw [if_pos (by decide)]
  exact ⟨z[0], by simp [getElem?_pos, h]⟩
theorem Verify_spec (root : ByteArray) {t : List UInt8} (sig : ByteArray) (ht : t.length ≤ 1099511627776) : ∃ r, mss_Verify root t sig = some r := by
  have : Tt (mss_Verify root t sig) (fun _ => True) := by
    unfold mss_Verify
    have hleaf : Tt (mss_Leaf sig) (fun _ => True) := by
      unfold mss_Leaf
      refine .ite (fun _ => .pure trivial) (fun hn => ?_)
      have hpos : 0 < sig.size := by
        rw [decide_eq_false_iff_not] at hn
        apply Nat.pos_of_ne_zero
        intro h0
        apply hn
        apply ByteArray.ext
        exact Array.eq_empty_of_size_eq_zero h0
      obtain ⟨x, hx⟩ := bat_some hpos
      rw [hx, Option.bind_some]
      exact .pure trivial
    refine .bind hleaf fun n _ => ?_
    by_cases h : (sig.size : Int) ≠ 145
    · simp only [thn, decide_eq_true h, if_true]
      exact .pure trivial
    · refine .thn (.ite (fun _ => .pure trivial) fun _ => ?_)
      have h145 : sig.size = 145 := by omega
      have hx : (sig.extract (1 : Int).toNat sig.size).size = 144 := by simp [h145]
      refine .grd (by unfold okS; simp; omega) (.grd (by omega) ?_)
      refine .bind (Cut_spec (n := 18) (by rw [data_len, hx]) (by omega)) fun l ⟨hl, h8⟩ => ?_
      refine .grd (by unfold okS; simp; omega) ?_
      refine Tt.loopR (fun i s => s.length = i ∧ ∀ x ∈ s, x.size = 8) ⟨rfl, by simp⟩ ?_ ?_
      · rintro i x s hx ⟨hs, hs8⟩
        have hm : x ∈ l := by
          have := List.mem_of_getElem? hx
          exact List.mem_of_mem_take (List.mem_of_mem_drop this)
        have hi := (List.getElem?_eq_some_iff.1 hx).1
        have hsl : (slc l 0 (15 : Int).toNat).length = 15 := by simp [slc, hl]
        refine .grd (by simp [hs]; omega) (.pure ⟨by simp [hs], fun y hy => ?_⟩)
        rcases List.mem_append.1 hy with h1 | h1
        · exact hs8 y h1
        · simp at h1; subst h1; exact h8 x hm
      · rintro s ⟨_, hs8⟩
        refine .grd (by unfold okS; simp; omega) ?_
        refine .bind (Open_spec ht hs8) fun r hr => ?_
        obtain ⟨c, hc⟩ := climb_spec (n := n) (l := slc l (15 : Int).toNat l.length) hr fun x hx => h8 x (List.mem_of_mem_take (List.mem_of_mem_drop hx))
        rw [hc, Option.bind_some]
        exact .ite (fun _ => .pure trivial) fun _ => .pure trivial
  obtain ⟨r, hr, _⟩ := this
  exact ⟨r, hr⟩
end Go.Sl
