/- Elements of lists; append; literals of slices. -/
import Derived.Test.YtjlalcoommhfoaaGreatSlFlow
set_option linter.unusedVariables false
set_option linter.unusedSimpArgs false
namespace Go.Sl
/-- The address of element i. -/
def IsIx (v : Value) (sz n i b off : Nat) : Prop := ∃ o c, v = .slice (some ⟨b, o, none⟩) n c ∧ i < n ∧ off = o + i * sz
section
variable {C : Cx} {E E' E1 E2 E3 : List (Nat × Value)} {L L' L1 R R' : List Asn} {K : Act → World → Prop} {Q : Exit → Act → World → Prop}
  {ops : Array Oper} {rest : List Oper} {d : Nat} {v x y u : Value} {ty : TypeId} {pos : String} {aft : Array Edge} {p q : Asn} {b : Nat} {T t : TypeId} {cs cs' : List Value} {off k n sz : Nat} {gd : Option (Nat × Bool)} {xs ys : List (List Value)}

theorem rows_ix {v : Value} {h : Hp} (r : rows sz v xs h) {i : Nat} {x : List Value} (hx : xs[i]? = some x) : ∃ b off, IsIx v sz xs.length i b off := by
  obtain ⟨b, off, cap, e, _⟩ := rows_sub r hx
  exact ⟨b, off + i * sz, off, cap, e, (List.getElem?_eq_some_iff.1 hx).1, rfl⟩
theorem Post.ixq {i : Nat} {x : List Value} (m : rows sz v xs ∈ R) (hx : xs[i]? = some x) (k : ∀ b off, IsIx v sz xs.length i b off → Post C E L R K) : Post C E L R K := fun a w e s => by
  obtain ⟨h, hr, _⟩ := s.ro_at m
  obtain ⟨b, off, hq⟩ := rows_ix hr hx
  exact k b off hq a w e s
theorem Post.ixql {i : Nat} {x : List Value} (tk : Tk (lst T sz v xs) L L') (hx : xs[i]? = some x) (k : ∀ b off, IsIx v sz xs.length i b off → Post C E L R K) : Post C E L R K := fun a w e s => by
  obtain ⟨h, hr, _⟩ := (s.take tk).own_at
  obtain ⟨b, off, hq⟩ := rows_ix (lst_rows hr) hx
  exact k b off hq a w e s
/-- Of a list that is read the length is small. -/
theorem Post.lenq (m : rows sz v xs ∈ R) (k : xs.length ≤ 4611686018427387904 → Post C E L R K) : Post C E L R K := fun a w e s =>
  k (s.rfact m fun h hr => hr.2.1) a w e s
theorem Post.lenql (tk : Tk (lst T sz v xs) L L') (k : xs.length ≤ 4611686018427387904 → Post C E L R K) : Post C E L R K := fun a w e s =>
  k ((s.take tk).fact fun h hr => hr.2.1) a w e s
theorem P.ixs {o oi : Operand} {st e : TypeId} {i : Nat} (h : Ev E o (N i) E1) (h' : Ev E1 oi v E') (hq : IsIx v sz n i b off)
    (hu : ∀ w, (underlying st).run C.P w = .ok (.slice e) w) (hs : ∀ w, (sizeOf e).run C.P w = .ok sz w) :
    OpP C E ⟨some d, .indexAddr st oi o, ty, pos, aft, gd⟩ (pt b off) E' := fun a w he => by
  obtain ⟨h1, h2⟩ := h _ a he
  obtain ⟨h3, h4⟩ := h' _ a h2
  obtain ⟨o', c, rfl, hlt, rfl⟩ := hq
  refine ⟨?_, h4⟩
  simp [execOp, h1, h3, Instr.indexAt, asIntOf, hu, hs, addr_add, hlt]
/-- A load out of an element. -/
theorem V.ldx {o : Operand} {i : Nat} {x : List Value} (h : Ev E o (pt b (off + k)) E') (hq : IsIx v sz n i b off) (m : rows sz v xs ∈ R) (hx : xs[i]? = some x) (hv : LdV C.P t x k u) :
    OpV C E L R ⟨some d, .load t o, ty, pos, aft, gd⟩ u E' := fun a w he hs => by
  obtain ⟨h1, h2⟩ := h _ a he
  refine ⟨?_, h2⟩
  obtain ⟨o', c, rfl, hlt, rfl⟩ := hq
  obtain ⟨hp, hr, hin⟩ := hs.ro_at m
  obtain ⟨b', off', cap', e, T, all, fz, rfl, hpre⟩ := rows_sub hr hx
  simp only [Value.slice.injEq, Option.some.injEq, Addr.mk.injEq, and_true, true_and] at e
  obtain ⟨⟨rfl, rfl⟩, _, _⟩ := e
  have := hv w b (o' + i * sz) T all fz (hin b _ (by simp [single])) hpre
  simp [execOp, h1, this]
theorem V.ldx0 {o : Operand} {i : Nat} {x : List Value} (h : Ev E o (pt b off) E') (hq : IsIx v sz n i b off) (m : rows sz v xs ∈ R) (hx : xs[i]? = some x) (hv : LdV C.P t x 0 u) :
    OpV C E L R ⟨some d, .load t o, ty, pos, aft, gd⟩ u E' := V.ldx (k := 0) h hq m hx hv
theorem V.ldxl {o : Operand} {i : Nat} {x : List Value} (h : Ev E o (pt b (off + k)) E') (hq : IsIx v sz n i b off) (tk : Tk (lst T sz v xs) L L') (hx : xs[i]? = some x) (hv : LdV C.P t x k u) :
    OpV C E L R ⟨some d, .load t o, ty, pos, aft, gd⟩ u E' := fun a w he hs => by
  obtain ⟨h1, h2⟩ := h _ a he
  refine ⟨?_, h2⟩
  obtain ⟨o', c, rfl, hlt, rfl⟩ := hq
  obtain ⟨hp, hr, hin⟩ := (hs.take tk).own_at
  obtain ⟨b', off', cap', e, T, all, fz, rfl, hpre⟩ := rows_sub (lst_rows hr) hx
  simp only [Value.slice.injEq, Option.some.injEq, Addr.mk.injEq, and_true, true_and] at e
  obtain ⟨⟨rfl, rfl⟩, _, _⟩ := e
  have := hv w b (o' + i * sz) T all fz (hin b _ (by simp [single])) hpre
  simp [execOp, h1, this]
theorem V.ldxl0 {o : Operand} {i : Nat} {x : List Value} (h : Ev E o (pt b off) E') (hq : IsIx v sz n i b off) (tk : Tk (lst T sz v xs) L L') (hx : xs[i]? = some x) (hv : LdV C.P t x 0 u) :
    OpV C E L R ⟨some d, .load t o, ty, pos, aft, gd⟩ u E' := V.ldxl (k := 0) h hq tk hx hv

/-! ### A slice of one element -/
theorem fold_set : ∀ (l : List Value) (k : Nat) (A : Array Value), k + l.length ≤ A.size →
    (l.zipIdx k).foldl (fun cs (x : Value × Nat) => cs.setIfInBounds x.2 x.1) A = ⟨A.toList.take k ++ l ++ A.toList.drop (k + l.length)⟩ := by
  intro l
  induction l with
  | nil => intro k A _; cases A; simp
  | cons v l ih =>
    intro k A h
    simp only [List.zipIdx_cons, List.foldl_cons, List.length_cons] at *
    rw [ih (k + 1) _ (by simp; omega)]
    congr 1
    have := splice_step A.toList v l k (by simp; omega)
    simpa [Array.toList_setIfInBounds] using this
theorem run_bsl1 {P : Program} {w : World} {e : TypeId} {z : Value} (hu : ∀ w, (underlying t).run P w = .ok (.slice e) w) (hs : ∀ w, (sizeOf e).run P w = .ok sz w)
    (hz : ∀ w, (zeroValue e).run P w = .ok z w) (hv : v.cells = ⟨cs⟩) (hc : cs.length = sz) (hb : sz ≤ 16777216) (hp : 0 < sz) :
    (Instr.buildSlice t 1 #[(0, v)]).run P w = .ok (.slice (some ⟨w.heap.size, 0, none⟩) 1 1) { w with heap := w.heap.push (.cells ⟨cs⟩ e) } := by
  subst hc
  have hb' : ¬ (16777216 : Nat) < cs.length := by omega
  have key : ∀ Z : Array Value, Z.size = cs.length → Instr.fill (fun i => some (i * cs.length, cs.length)) Z [(0, v)] = some ⟨cs⟩ := fun Z hZ => by
    have := fold_set cs 0 Z (by omega)
    simp only [Nat.zero_add, List.take_zero, List.nil_append] at this
    rw [List.drop_of_length_le (by simp [hZ])] at this
    simp only [List.append_nil] at this
    simp [Instr.fill, hv, hZ, this]
  simp only [Instr.buildSlice, Sem.run_bind, hu, hs, Result.andThen_ok, Nat.one_mul]
  have h0 : ¬ cs.length = 0 := by omega
  have hk := key ((Array.range cs.length).map fun x => z.cells[x % z.cells.size]!) (by simp)
  simp [hb', h0, hz, hk, newRow]
/-- A slice of one element, of the call's own. -/
theorem G.bsl {o : Operand} {e : TypeId} {z : Value} (h : Ev E o v E') (hu : ∀ w, (underlying t).run C.P w = .ok (.slice e) w) (hs : ∀ w, (sizeOf e).run C.P w = .ok sz w)
    (hz : ∀ w, (zeroValue e).run C.P w = .ok z w) (hv : v.cells = ⟨cs⟩) (hc : cs.length = sz) (hb : Nat.ble sz 16777216 = true) (hp : Nat.blt 0 sz = true) (hd : fr E' d C.n.n = true) :
    OpG C Q E L R ⟨some d, .buildSlice t 1 #[(0, o)], ty, pos, aft, gd⟩ (fun _ : Value => True) (fun u => (d, u) :: E') (fun u => lst e sz u [cs] :: L) (fun _ => R) := fun a w K he hs' k => by
  obtain ⟨h1, h2⟩ := h _ a he
  have hrun := run_bsl1 (w := w) hu hs hz hv hc (by simpa using hb) (by simpa using hp)
  have : (execOp a.eval ⟨some d, .buildSlice t 1 #[(0, o)], ty, pos, aft, gd⟩).run C.P w = .ok (.value (.slice (some ⟨w.heap.size, 0, none⟩) 1 1)) { w with heap := w.heap.push (.cells ⟨cs⟩ e) } := by
    simp [execOp, h1, hrun]
  unfold Oper.wp
  rw [this]
  refine k _ trivial _ _ (h2.put hd) ((hs'.new (.cells ⟨cs⟩ e)).conseq fun hh hb' => ?_)
  refine ⟨by simp [hc], by simp, .inr ⟨w.heap.size, 1, [], [], rfl, ?_, by simp, by simp⟩⟩
  rw [hb']; simp

/-! ### append -/
theorem Sat.open_lst {w0 w : World} {D G : Nat → Prop} {s : Value} (hst : Sat w0 D G (lst T sz s xs :: L) R w) : (∀ x ∈ xs, x.length = sz) ∧ xs.length ≤ 4611686018427387904 ∧
    ((xs = [] ∧ s = nilSl ∧ Sat w0 D G L R w) ∨ ∃ b cap pre ext, s = .slice (some ⟨b, pre.length, none⟩) xs.length cap ∧ Sat w0 D G (blk b T (pre ++ xs.flatten ++ ext) :: L) R w ∧ xs.length ≤ cap ∧ ext.length = (cap - xs.length) * sz) := by
  have hst' := hst
  obtain ⟨h, g, ⟨h1, h2, rfl, dj, hp, hl⟩, r⟩ := hst.own
  obtain ⟨a1, a2, a3⟩ := hp
  refine ⟨a1, a2, ?_⟩
  rcases a3 with ⟨rfl, rfl⟩ | ⟨b, cap, pre, ext, rfl, rfl, a4, a5⟩
  · exact .inl ⟨rfl, rfl, hst'.drop⟩
  · exact .inr ⟨b, cap, pre, ext, rfl, ⟨hst.os, hst.tape, hst.output, hst.size, hst.keep, _, g, ⟨_, h2, rfl, dj, rfl, hl⟩, r⟩, a4, a5⟩
theorem mul_le_of {a b c d : Nat} (h : a ≤ b) (hd : b * c ≤ d) : a * c ≤ d := Nat.le_trans (Nat.mul_le_mul_right c h) hd
theorem run_load_at {P : Program} {w : World} {b o : Nat} {T : TypeId} {all cs : List Value} {fz : Nat × Nat} (h : w.heap[b]? = some (.cells ⟨all⟩ T fz)) (hp : cs <+: all.drop o) :
    (loadCells ⟨b, o, none⟩ cs.length).run P w = .ok ⟨cs⟩ w := by
  refine run_loadCells_list (P := P) (w := w) ⟨b, o, none⟩ cs fun j u hj => ?_
  rw [addr_add, cell_at h]
  exact pre_get hp hj
theorem zero_len (z : Value) (n : Nat) : (Builtin.zeroCells z.cells n).toList.length = n * z.cells.size := by simp [Builtin.zeroCells]
/-- The run of append: onto a list of one's own, of a list that is read. -/
theorem run_app {P : Program} {w : World} {e st xt xe : TypeId} {sz by_ : Nat} {ti : TypeInfo} {z s u : Value} {xs ys : List (List Value)} {w0 : World} {D G : Nat → Prop} {L R : List Asn}
    (hu : ∀ w, (underlying st).run P w = .ok (.slice e) w) (hux : ∀ w, (underlying xt).run P w = .ok (.slice xe) w) (hs : ∀ w, (sizeOf e).run P w = .ok sz w)
    (ht : ∀ w, (typeInfo e).run P w = .ok ti w) (hti : ti.bytes = by_) (hby : 0 < by_) (hz : ∀ w, (zeroValue e).run P w = .ok z w) (hzs : z.cells.size = sz)
    (hone : oneAll ys.flatten = true) (hst : Sat w0 D G (lst e sz s xs :: L) R w) (hr : rows sz u ys ∈ R ∨ rows sz u ys ∈ L ∨ ∃ T', lst T' sz u ys ∈ L) (hb : (xs.length + ys.length) * by_ ≤ 140737488355328) :
    ∃ s' w', (Builtin.append_ #[st, xt] ty #[s, u]).run P w = .ok s' w' ∧ Sat w0 D G (lst e sz s' (xs ++ ys) :: L) R w' := by
  -- what is appended, as it stands in memory
  have hsrc : ∃ k : Hp, rows sz u ys k ∧ k.In w := by
    obtain ⟨h, g, ⟨h1, h2, rfl, dj, hp, hl⟩, hin, gin, gh, hd, hg, hrr⟩ := hst.own
    have lent : ∀ {B : List Asn} {h2 : Hp}, stars B h2 → ∀ r ∈ B, ∃ k : Hp, r k ∧ Le k h2 := by
      intro B
      induction B with
      | nil => intro _ _ r hr; simp at hr
      | cons q B ih =>
        rintro h2 ⟨k1, k2, rfl, dk, hq, hb⟩ r hr
        rcases List.mem_cons.1 hr with rfl | hm
        · exact ⟨k1, hq, Le.un_l _ _⟩
        · obtain ⟨k, x, y⟩ := ih hb r hm
          exact ⟨k, x, y.trans (by rw [un_comm dk]; exact Le.un_l _ _)⟩
    rcases hr with hr | hr | ⟨T', hr⟩
    · obtain ⟨k, a, i⟩ := hrr _ hr; exact ⟨k, a, i.inw gin⟩
    · obtain ⟨k, a, i⟩ := lent hl _ hr; exact ⟨k, a, i.inw (Hp.In.of_un dj hin).2⟩
    · obtain ⟨k, a, i⟩ := lent hl _ hr; exact ⟨k, lst_rows a, i.inw (Hp.In.of_un dj hin).2⟩
  obtain ⟨ku, hku, hkin⟩ := hsrc
  obtain ⟨hl1, hl2, hl3⟩ := hku
  have hulen : ∃ au cu, u = .slice au ys.length cu := by
    rcases hl3 with ⟨rfl, a, c, rfl⟩ | ⟨b, off, cap, T, all, fz, rfl, _⟩
    · exact ⟨a, c, rfl⟩
    · exact ⟨_, _, rfl⟩
  have hfirst : (Builtin.firstCells sz ys.length u).run P w = .ok ⟨ys.flatten⟩ w := by
    rcases hl3 with ⟨rfl, a, c, rfl⟩ | ⟨b, off, cap, T, all, fz, rfl, rfl, hpre, _⟩
    · cases a <;> simp [Builtin.firstCells, loadCells, loadCellsFrom]
    · have := run_load_at (P := P) (T := T) (fz := fz) (hkin b _ (by simp [single])) hpre
      rw [flat_len hl1] at this
      simpa [Builtin.firstCells] using this
  obtain ⟨au, cu, rfl⟩ := hulen
  obtain ⟨kown, hown, hoin⟩ := hst.own_at
  obtain ⟨ho1, ho2, ho3⟩ := hown
  have hall : ∀ x ∈ xs ++ ys, x.length = sz := fun x hx => by
    rcases List.mem_append.1 hx with h | h
    · exact ho1 x h
    · exact hl1 x h
  have hlen : (xs ++ ys).length ≤ 4611686018427387904 := by
    have : (xs.length + ys.length) * 1 ≤ (xs.length + ys.length) * by_ := Nat.mul_le_mul_left _ hby
    rw [List.length_append]; omega
  have hb0 : ¬ (ti.bytes = 0) := by omega
  subst hti
  have hmax : ¬ (IntKind.i64.max < ((xs.length + ys.length : Nat) : Int)) := by
    have : IntKind.i64.max = 9223372036854775807 := by decide
    rw [this, ← List.length_append]; omega
  -- where it grows
  have grow : ∀ (base : Option Addr) (cap : Nat), s = .slice base xs.length cap → cap < xs.length + ys.length → (Builtin.firstCells sz xs.length s).run P { w with drawn := w.drawn + 1 } = .ok ⟨xs.flatten⟩ { w with drawn := w.drawn + 1 } →
      ∃ s' w', (Builtin.append_ #[st, xt] ty #[s, .slice au ys.length cu]).run P w = .ok s' w' ∧ Sat w0 D G (lst e sz s' (xs ++ ys) :: L) R w' := by
    rintro base cap rfl hlt hold
    have hfit := growslice_fits (bytes := ti.bytes) hlt hb
    have hnew : (Builtin.firstCells sz ys.length (.slice au ys.length cu)).run P { w with drawn := w.drawn + 1 } = .ok ⟨ys.flatten⟩ { w with drawn := w.drawn + 1 } := by
      rcases hl3 with ⟨rfl, a, c, he⟩ | ⟨b, off, cap, T, all, fz, he, rfl, hpre, _⟩
      · cases au <;> simp [Builtin.firstCells, loadCells, loadCellsFrom]
      · injection he with he1 he2 he3
        subst he1
        have := run_load_at (P := P) (w := { w with drawn := w.drawn + 1 }) (T := T) (fz := fz) (hkin b _ (by simp [single])) hpre
        rw [flat_len hl1] at this
        simpa [Builtin.firstCells] using this
    generalize hq : Question.cut (.appendCap (xs.length + ys.length) cap e) (w.tape w.drawn (.appendCap (xs.length + ys.length) cap e)) = nc
    have hnc : xs.length + ys.length ≤ nc := by rw [← hq]; simp only [Question.cut]; omega
    refine ⟨.slice (some ⟨w.heap.size, 0, none⟩) (xs.length + ys.length) nc, _, ?_, ((hst.drop.drewn (w.drawn + 1)).new (.cells ⟨xs.flatten ++ ys.flatten ++ (Builtin.zeroCells z.cells (nc - (xs.length + ys.length))).toList⟩ e)).conseq fun hh hhb => ?_⟩
    · have h1 : ¬ (xs.length + ys.length ≤ cap) := by omega
      have h2 : ¬ (281474976710656 < Builtin.nextslicecap (xs.length + ys.length) cap * ti.bytes) := by omega
      have hold' : (Builtin.firstCells sz xs.length (.slice base xs.length cap)).run P w.drew = .ok ⟨xs.flatten⟩ w.drew := hold
      have hnew' : (Builtin.firstCells sz ys.length (.slice au ys.length cu)).run P w.drew = .ok ⟨ys.flatten⟩ w.drew := hnew
      simp [Builtin.append_, hu, hux, hs, ht, Builtin.lenOf, h1, hb0, h2, Question.forced, hq, hold', hnew', hz, newRow]
      have hA : ∀ Z : Array Value, ((⟨xs.flatten⟩ : Array Value) ++ ((⟨ys.flatten⟩ : Array Value) ++ Z)) = ⟨xs.flatten ++ (ys.flatten ++ Z.toList)⟩ := fun Z => by apply Array.ext'; simp
      rw [hA]
      rfl
    · refine ⟨hall, hlen, .inr ⟨w.heap.size, nc, [], (Builtin.zeroCells z.cells (nc - (xs.length + ys.length))).toList, by simp, ?_, by simpa using hnc, ?_⟩⟩
      · rw [hhb]; simp
      · rw [zero_len, hzs]; simp
  obtain ⟨_, _, hopen⟩ := hst.open_lst
  rcases hopen with ⟨rfl, rfl, hs0⟩ | ⟨b, cap, pre, ext, rfl, hs0, hc1, hc2⟩
  · by_cases hy : ys.length = 0
    · have : ys = [] := List.length_eq_zero_iff.1 hy
      subst this
      refine ⟨nilSl, w, ?_, by simpa using hst⟩
      simp [Builtin.append_, hu, hux, hs, Builtin.lenOf, hfirst]
      simp at hfirst
      simp [hfirst]
    · exact grow none 0 rfl (by simp; omega) (by simp [Builtin.firstCells])
  · by_cases hfits : xs.length + ys.length ≤ cap
    · have hblk := hs0.blk_at
      have hext : ys.flatten.length ≤ ext.length := by
        rw [flat_len hl1, hc2]
        exact Nat.mul_le_mul_right _ (by omega)
      obtain ⟨w', hr', e1, e2, e3, e4, e5, e6⟩ := run_storeCells (P := P) ys.flatten w b (pre.length + xs.length * sz) 0 e _ hblk hone (by
        simp only [List.length_append, Nat.add_zero, flat_len ho1]; omega)
      refine ⟨.slice (some ⟨b, pre.length, none⟩) (xs.length + ys.length) cap, w', ?_, (Sat.put (o := .cells ⟨pre ++ xs.flatten ++ ext⟩ e (0, 0)) hs0 _ e1 e2 e3 e4 e5 e6).conseq fun hh hhb => ?_⟩
      · simp [Builtin.append_, hu, hux, hs, Builtin.lenOf, hfits, hfirst, addr_add, hr']
      · refine ⟨hall, hlen, .inr ⟨b, cap, pre, ext.drop ys.flatten.length, by simp, ?_, by simpa using hfits, ?_⟩⟩
        · rw [hhb]
          congr 2
          have : (pre ++ xs.flatten).length = pre.length + xs.length * sz := by simp [flat_len ho1]
          rw [Nat.add_zero, ← this, List.take_left, ← List.drop_drop, List.drop_left]
          simp [List.flatten_append]
        · rw [List.length_drop, hc2, flat_len hl1, List.length_append, ← Nat.sub_mul]
          congr 1
          omega
    · refine grow _ cap rfl (by omega) ?_
      have := run_load_at (P := P) (w := { w with drawn := w.drawn + 1 }) (b := b) (o := pre.length) (T := e) (fz := (0, 0)) (cs := xs.flatten) hs0.blk_at (by rw [List.append_assoc, List.drop_left]; exact List.prefix_append _ _)
      rw [flat_len ho1] at this
      simpa [Builtin.firstCells] using this
/-- append(s, xs...). -/
theorem G.app {o o' : Operand} {e st xt xe : TypeId} {by_ : Nat} {ti : TypeInfo} {z s : Value} {B : List Asn} (h : Ev E o s E1) (h' : Ev E1 o' u E') (tk : Tk (lst e sz s xs) L B) (hr : rows sz u ys ∈ R ∨ rows sz u ys ∈ B ∨ ∃ T', lst T' sz u ys ∈ B)
    (hu : ∀ w, (underlying st).run C.P w = .ok (.slice e) w) (hux : ∀ w, (underlying xt).run C.P w = .ok (.slice xe) w) (hs : ∀ w, (sizeOf e).run C.P w = .ok sz w)
    (ht : ∀ w, (typeInfo e).run C.P w = .ok ti w) (hti : ti.bytes = by_) (hby : Nat.blt 0 by_ = true) (hz : ∀ w, (zeroValue e).run C.P w = .ok z w) (hzs : z.cells.size = sz)
    (hone : oneAll ys.flatten = true) (hb : (xs.length + ys.length) * by_ ≤ 140737488355328) (hd : fr E' d C.n.n = true) :
    OpG C Q E L R ⟨some d, .call ⟨.builtin .append, #[o, o'], #[st, xt]⟩, ty, pos, aft, gd⟩ (fun _ : Value => True) (fun v => (d, v) :: E') (fun v => lst e sz v (xs ++ ys) :: B) (fun _ => R) := fun a w K he hst k => by
  obtain ⟨h1, h2⟩ := h _ a he
  obtain ⟨h3, h4⟩ := h' _ a h2
  obtain ⟨s', w', hrun, hst'⟩ := run_app (ty := ty) hu hux hs ht hti (by simpa using hby) hz hzs hone (hst.take tk) hr hb
  have : (execOp a.eval ⟨some d, .call ⟨.builtin .append, #[o, o'], #[st, xt]⟩, ty, pos, aft, gd⟩).run C.P w = .ok (.value s') w' := by
    simp [execOp, resolve, invoke, builtin, h1, h3, hrun]
  unfold Oper.wp
  rw [this]
  exact k s' trivial _ _ (h4.put hd) hst'
end
end Go.Sl
