/- Some parts of a list of one's own are taken out: slices.Delete. -/
import Derived.Test.YtjlalcoommhfoaaGreatSlDf
set_option linter.unusedVariables false
set_option linter.unusedSimpArgs false
namespace Go.Sl
/-- The slice u is the slice v with another length. -/
def SlP (v : Value) (n : Nat) (u : Value) : Prop := ∃ a l c, v = .slice a l c ∧ u = .slice a n c
section
variable {C : Cx} {E E' E0 E1 : List (Nat × Value)} {L L' R B : List Asn} {K : Act → World → Prop} {Q : Exit → Act → World → Prop}
  {d : Nat} {v x y u u2 : Value} {ty : TypeId} {pos : String} {aft : Array Edge} {T t e : TypeId} {sz n i j : Nat} {gd : Option (Nat × Bool)} {xs : List (List Value)}
theorem Post.slnql (tk : Tk (lst T sz v xs) L L') (k : SlN v xs.length → Post C E L R K) : Post C E L R K := .fact tk (fun h r => by
  have r := lst_rows r
  have hc := rows_lecap r
  obtain ⟨a, c, rfl⟩ := rows_shape r
  exact ⟨a, c, rfl, hc _ _ _ rfl⟩) k
/-- append(s[:i], s[j:]...), in place. -/
theorem G.appd {o o' : Operand} {st : TypeId} {li hj : Int} (h : Ev E o (slv v sz none (some li) none) E1) (h' : Ev E1 o' (slv v sz (some hj) none none) E') (tk : Tk (lst e sz v xs) L B)
    (hi : li = i) (hjj : hj = j) (hij : i < j) (hjn : j ≤ xs.length) (hone : oneAll xs.flatten = true)
    (hu : ∀ w, (underlying st).run C.P w = .ok (.slice e) w) (hs : ∀ w, (sizeOf e).run C.P w = .ok sz w) (hd : fr E' d C.n.n = true) :
    OpG C Q E L R ⟨some d, .call ⟨.builtin .append, #[o, o'], #[st, st]⟩, ty, pos, aft, gd⟩ (fun z : Value => SlP v (i + (xs.length - j)) z) (fun z => (d, z) :: E')
      (fun _ => lst e sz v (xs.take i ++ xs.drop j ++ xs.drop (xs.length - (j - i))) :: B) (fun _ => R) := fun a w K he hst k => by
  subst hi
  subst hjj
  obtain ⟨h1, h2⟩ := h _ a he
  obtain ⟨h3, h4⟩ := h' _ a h2
  have hst1 := hst.take tk
  obtain ⟨g1, g2, hh⟩ := hst1.open_lst
  rcases hh with ⟨rfl, rfl, _⟩ | ⟨b, cap, pre, ext, rfl, hs0, hc1, hc2⟩
  · simp at hjn; omega
  have hblk := hs0.blk_at
  have hsub : ∀ l : List (List Value), (∀ x ∈ l, x ∈ xs) → ∀ x ∈ l, x.length = sz := fun l hl x hx => g1 x (hl x hx)
  have hdl : (xs.drop j).flatten.length = (xs.length - j) * sz := by
    rw [flat_len (sz := sz) (hsub _ fun x hx => List.mem_of_mem_drop hx), List.length_drop]
  have htl : (xs.take i).flatten.length = i * sz := by
    rw [flat_len (sz := sz) (hsub _ fun x hx => List.mem_of_mem_take hx), List.length_take, Nat.min_eq_left (by omega)]
  have hxl : xs.flatten.length = xs.length * sz := flat_len g1
  have honed : oneAll (xs.drop j).flatten = true := by
    have e1 : xs.flatten = (xs.take j).flatten ++ (xs.drop j).flatten := by rw [← List.flatten_append, List.take_append_drop]
    rw [e1] at hone
    simp only [oneAll, List.all_append, Bool.and_eq_true] at hone ⊢
    exact hone.2
  have hmul : i * sz + (xs.length - j) * sz ≤ xs.length * sz := by rw [← Nat.add_mul]; exact Nat.mul_le_mul_right _ (by omega)
  obtain ⟨w', hr, e1, e2, e3, e4, e5, e6⟩ := run_storeCells (P := C.P) (xs.drop j).flatten w b (pre.length + i * sz) 0 e _ hblk honed (by
    simp only [List.length_append, hdl, hxl]; omega)
  have hld : (loadCells ⟨b, pre.length + j * sz, none⟩ ((xs.length - j) * sz)).run C.P w = .ok ⟨(xs.drop j).flatten⟩ w := by
    have := run_load_at (P := C.P) (o := pre.length + j * sz) (cs := (xs.drop j).flatten) hblk (by
      have e0 : xs.flatten = (xs.take j).flatten ++ (xs.drop j).flatten := by rw [← List.flatten_append, List.take_append_drop]
      have e7 : (xs.take j).flatten.length = j * sz := by
        rw [flat_len (sz := sz) (hsub _ fun x hx => List.mem_of_mem_take hx), List.length_take, Nat.min_eq_left (by omega)]
      rw [e0, ← List.drop_drop, List.append_assoc, List.drop_left, List.append_assoc, ← e7, List.drop_left]
      exact List.prefix_append _ _)
    rwa [hdl] at this
  have hv1 : slv (.slice (some ⟨b, pre.length, none⟩) xs.length cap) sz none (some (i : Int)) none = .slice (some ⟨b, pre.length, none⟩) i cap := by
    simp [slv, addr_add]
  have hv2 : ∃ ad, slv (.slice (some ⟨b, pre.length, none⟩) xs.length cap) sz (some (j : Int)) none none = .slice ad (xs.length - j) (cap - j) ∧ (xs.length - j ≠ 0 → ad = some ⟨b, pre.length + j * sz, none⟩) := by
    refine ⟨_, rfl, fun hne => ?_⟩
    have : ¬ cap = j := by omega
    simp [this, addr_add]
  obtain ⟨ad, hv2, had⟩ := hv2
  rw [hv1] at h1
  rw [hv2] at h3
  have hfirst : (Builtin.firstCells sz (xs.length - j) (.slice ad (xs.length - j) (cap - j))).run C.P w = .ok ⟨(xs.drop j).flatten⟩ w := by
    by_cases h0 : xs.length - j = 0
    · have : xs.drop j = [] := List.drop_of_length_le (by omega)
      rw [this, h0]
      cases ad <;> simp [Builtin.firstCells, loadCells, loadCellsFrom]
    · rw [had h0]
      simpa [Builtin.firstCells] using hld
  have hrun : (execOp a.eval ⟨some d, .call ⟨.builtin .append, #[o, o'], #[st, st]⟩, ty, pos, aft, gd⟩).run C.P w = .ok (.value (.slice (some ⟨b, pre.length, none⟩) (i + (xs.length - j)) cap)) w' := by
    have hfits : i + (xs.length - j) ≤ cap := by omega
    simp [execOp, resolve, invoke, builtin, h1, h3, Builtin.append_, hu, hs, Builtin.lenOf, hfits, hfirst, addr_add, hr]
  unfold Oper.wp
  rw [hrun]
  refine k _ ⟨_, _, _, rfl, rfl⟩ _ _ (h4.put hd) ((Sat.put (o := .cells ⟨pre ++ xs.flatten ++ ext⟩ e (0, 0)) hs0 _ e1 e2 e3 e4 e5 e6).conseq fun hh hhb => ?_)
  have hlen : (xs.take i ++ xs.drop j ++ xs.drop (xs.length - (j - i))).length = xs.length := by simp; omega
  refine ⟨fun x hx => ?_, by omega, .inr ⟨b, cap, pre, ext, by rw [hlen], ?_, by omega, by rw [hlen]; exact hc2⟩⟩
  · refine g1 x ?_
    rcases List.mem_append.1 hx with hx | hx
    · rcases List.mem_append.1 hx with hx | hx
      · exact List.mem_of_mem_take hx
      · exact List.mem_of_mem_drop hx
    · exact List.mem_of_mem_drop hx
  · rw [hhb]
    congr 2
    rw [Nat.add_zero, hdl]
    have ea : xs.flatten = (xs.take i).flatten ++ (xs.drop i).flatten := by rw [← List.flatten_append, List.take_append_drop]
    have eb : xs.flatten = (xs.take (xs.length - (j - i))).flatten ++ (xs.drop (xs.length - (j - i))).flatten := by rw [← List.flatten_append, List.take_append_drop]
    have el : (xs.take (xs.length - (j - i))).flatten.length = (xs.length - (j - i)) * sz := by
      rw [flat_len (sz := sz) (hsub _ fun x hx => List.mem_of_mem_take hx), List.length_take, Nat.min_eq_left (by omega)]
    have t1 : (pre ++ xs.flatten ++ ext).take (pre.length + i * sz) = pre ++ (xs.take i).flatten := by
      rw [List.append_assoc, List.take_append, List.take_of_length_le (by omega), Nat.add_sub_cancel_left, ea, List.append_assoc, ← htl, List.take_left]
    have t2 : (pre ++ xs.flatten ++ ext).drop (pre.length + i * sz + (xs.length - j) * sz) = (xs.drop (xs.length - (j - i))).flatten ++ ext := by
      have : pre.length + i * sz + (xs.length - j) * sz = pre.length + (xs.length - (j - i)) * sz := by
        rw [Nat.add_assoc, ← Nat.add_mul]; congr 2; omega
      rw [this, ← List.drop_drop, List.append_assoc, List.drop_left, eb, List.append_assoc, ← el, List.drop_left]
    rw [t1, t2]
    simp [List.flatten_append]
/-- s[n':n], behind the slice's end, within what v has. -/
theorem P.sltl {o ol oh : Operand} {st : TypeId} {m k : Int} (h : Ev E o u E0) (h' : Ev E0 ol (N m) E1) (h2 : Ev E1 oh (N k) E') (hm : m = n) (hk : k = xs.length) (hp : SlP v n u) (hq : SlN v xs.length) (hn : n ≤ xs.length)
    (hu : ∀ w, (underlying st).run C.P w = .ok (.slice e) w) (hs : ∀ w, (sizeOf e).run C.P w = .ok sz w) (h2u : Tlv v sz n xs.length u2) :
    OpP C E ⟨some d, .slice st o (some ol) (some oh) none, ty, pos, aft, gd⟩ u2 E' := fun a w he => by
  obtain ⟨h1, h3⟩ := h _ a he
  obtain ⟨h4, h5⟩ := h' _ a h3
  obtain ⟨h6, h7⟩ := h2 _ a h5
  subst hm
  subst hk
  obtain ⟨ad, l, c, rfl, rfl⟩ := hp
  obtain ⟨a2, c2, e1, hc⟩ := hq
  obtain ⟨a3, c3, e2, rfl⟩ := h2u
  simp only [Value.slice.injEq] at e1 e2
  obtain ⟨rfl, rfl, rfl⟩ := e1
  obtain ⟨rfl, _, rfl⟩ := e2
  refine ⟨?_, h7⟩
  simp [execOp, h1, h4, h6, Instr.sliceAt, Instr.slice, hu, hs, Instr.sliceBounds, Instr.sliceBound, asIntOf, hc, hn]
theorem tl_ex (hq : SlN v xs.length) (m : Nat) : ∃ u2, Tlv v sz m xs.length u2 := by
  obtain ⟨a, c, rfl, _⟩ := hq
  exact ⟨_, a, c, rfl, rfl⟩
theorem slp_len {n : Nat} (hp : SlP v n u) : ∃ a c, u = .slice a n c := by
  obtain ⟨a, l, c, _, rfl⟩ := hp
  exact ⟨a, c, rfl⟩
theorem del_len (hij : i < j) (hjn : j ≤ xs.length) : (xs.take i ++ xs.drop j ++ xs.drop (xs.length - (j - i))).length = xs.length := by simp; omega
theorem lst_del {h : Hp} {zs ws : List (List Value)} (hp : SlP v n u) (hl : lst T sz v (zs ++ ws) h) (hn : zs.length = n) (hw : ws ≠ []) : lst T sz u zs h := by
  subst hn
  obtain ⟨a1, a2, a3⟩ := hl
  obtain ⟨a, l, c, rfl, rfl⟩ := hp
  refine ⟨fun x hx => a1 x (List.mem_append_left _ hx), by simp at a2; omega, ?_⟩
  rcases a3 with ⟨h0, _⟩ | ⟨b, cap, pre, ext, e, rfl, a4, a5⟩
  · simp at h0; exact absurd h0.2 hw
  · simp only [Value.slice.injEq] at e
    obtain ⟨rfl, rfl, rfl⟩ := e
    simp only [List.length_append] at a4 a5
    refine .inr ⟨b, c, pre, ws.flatten ++ ext, rfl, by simp, by omega, ?_⟩
    have hwl : ws.flatten.length = ws.length * sz := flat_len fun x hx => a1 x (List.mem_append_right _ hx)
    rw [List.length_append, hwl, a5, ← Nat.add_mul]
    congr 1
    omega
theorem lst_del2 {α : Type} {f : α → List Value} {zs : List α} {cs : List Value} {h : Hp} {m : Nat} (hp : SlP v m u) (hm : m = i + ((zs.map f).length - j)) (hij : i < j) (hjn : j ≤ zs.length)
    (hl : lst T sz v (((zs.map f).take i ++ (zs.map f).drop j ++ (zs.map f).drop ((zs.map f).length - (j - i))).take m ++ List.replicate (((zs.map f).take i ++ (zs.map f).drop j ++ (zs.map f).drop ((zs.map f).length - (j - i))).length - m) cs) h) :
    lst T sz u ((zs.take i ++ zs.drop j).map f) h := by
  subst hm
  have hl1 : ((zs.map f).take i ++ (zs.map f).drop j).length = i + ((zs.map f).length - j) := by simp; omega
  have e : ((zs.map f).take i ++ (zs.map f).drop j ++ (zs.map f).drop ((zs.map f).length - (j - i))).take (i + ((zs.map f).length - j)) = (zs.take i ++ zs.drop j).map f := by
    rw [← hl1, List.take_left]; simp
  rw [e] at hl
  refine lst_del hp hl (by simp; omega) ?_
  rw [del_len hij (by simpa using hjn)]
  intro h0
  have := congrArg List.length h0
  simp at this
  omega
end
end Go.Sl
