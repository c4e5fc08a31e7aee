/- Slices cut, made, written; held against nil. -/
import Derived.Test.YtjlalcoommhfoaaGreatSlRange
import Derived.Lib.SliceRun
set_option linter.unusedVariables false
set_option linter.unusedSimpArgs false
namespace Go.Sl
/-- A part of a list. -/
def slc {α : Type} (xs : List α) (i j : Nat) : List α := (xs.take j).drop i
section
variable {C : Cx} {E E' E0 E1 E2 E3 : List (Nat × Value)} {L L' L1 R R' A B ro : List Asn} {K : Act → World → Prop} {Q : Exit → Act → World → Prop}
  {ops : Array Oper} {rest : List Oper} {d : Nat} {v x y u : Value} {ty : TypeId} {pos : String} {aft : Array Edge} {p q : Asn} {b : Nat} {T t : TypeId} {cs cs' : List Value} {off k n sz : Nat} {gd : Option (Nat × Bool)} {xs ys : List (List Value)}
theorem slc_map {α β : Type} (f : α → β) (xs : List α) (i j : Nat) : slc (xs.map f) i j = (slc xs i j).map f := by simp [slc]
theorem slc_len {α : Type} {xs : List α} {i j : Nat} (h : i ≤ j) (h2 : j ≤ xs.length) : (slc xs i j).length = j - i := by simp [slc]; omega
theorem flat_slc {sz : Nat} : ∀ {xs : List (List Value)}, (∀ x ∈ xs, x.length = sz) → ∀ (i j : Nat), (slc xs i j).flatten <+: xs.flatten.drop (i * sz) := by
  intro xs h i j
  have h1 : (xs.drop i).flatten = xs.flatten.drop (i * sz) := by
    clear j
    induction xs generalizing i with
    | nil => simp
    | cons y xs ih =>
      cases i with
      | zero => simp
      | succ i =>
        rw [List.drop_succ_cons, List.flatten_cons, Nat.succ_mul, Nat.add_comm, ← List.drop_drop, List.drop_left' (h y List.mem_cons_self)]
        exact ih (fun z hz => h z (List.mem_cons_of_mem _ hz)) i
  rw [← h1]
  unfold slc
  rw [List.drop_take]
  conv => rhs; rw [← List.take_append_drop (j - i) (xs.drop i), List.flatten_append]
  exact List.prefix_append _ _
/-- Operands that may be left out. -/
def Evo (E : List (Nat × Value)) : Option Operand → Option Int → List (Nat × Value) → Prop
  | none, none, E' => E = E'
  | some o, some i, E' => Ev E o (N i) E'
  | _, _, _ => False
theorem Evo.none : Evo E none none E := rfl
theorem Evo.some {o : Operand} {i : Int} (h : Ev E o (N i) E') : Evo E (some o) (some i) E' := h
theorem Evo.ev {o : Option Operand} {i : Option Int} (h : Evo E o i E') {n : Fd} {a : Act} (he : Env n E a) : o.map a.eval = i.map (fun i => N i) ∧ Env n E' a := by
  cases o <;> cases i <;> first | exact h.elim | skip
  · cases h; exact ⟨rfl, he⟩
  · obtain ⟨h1, h2⟩ := h _ a he; exact ⟨by simp [h1], h2⟩
def okS (len : Nat) (lo hi mx : Option Int) : Prop := 0 ≤ lo.getD 0 ∧ lo.getD 0 ≤ hi.getD len ∧ hi.getD len ≤ len ∧ (∀ m, mx = some m → hi.getD len ≤ m ∧ m ≤ len) ∧ (mx.isSome = true → hi.isSome = true)
instance (len : Nat) (lo hi mx : Option Int) : Decidable (okS len lo hi mx) := by
  unfold okS
  cases mx with
  | none => exact decidable_of_iff (0 ≤ lo.getD 0 ∧ lo.getD 0 ≤ hi.getD len ∧ hi.getD len ≤ len) (by simp)
  | some m => exact decidable_of_iff (0 ≤ lo.getD 0 ∧ lo.getD 0 ≤ hi.getD len ∧ hi.getD len ≤ len ∧ (hi.getD len ≤ m ∧ m ≤ len) ∧ hi.isSome = true) (by simp)
theorem run_bounds {P : Program} {w : World} {z : Bool} {len cap : Nat} {lo hi mx : Option Int} (h : okS len lo hi mx) (hc : len ≤ cap) :
    ∃ m : Nat, (Instr.sliceBounds z len cap (lo.map (fun i => N i)) (hi.map (fun i => N i)) (mx.map (fun i => N i))).run P w = .ok ((lo.getD 0).toNat, (hi.getD len).toNat, m) w ∧ (hi.getD len).toNat ≤ m ∧ m ≤ cap := by
  obtain ⟨h1, h2, h3, h4, h5⟩ := h
  have sb : ∀ (i : Int) (y : Nat) (c : BoundsCode), 0 ≤ i → i ≤ y → (Instr.sliceBound (N i) y c).run P w = .ok i.toNat w := fun i y c a b => by
    simp [Instr.sliceBound, asIntOf, a, b]
  cases mx with
  | some m =>
    obtain ⟨g1, g2⟩ := h4 m rfl
    cases hi with
    | none => simp at h5
    | some j =>
      simp only [Option.getD_some] at *
      have e1 := sb m cap (if z = true then .slice3Acap else .slice3Alen) (by omega) (by omega)
      have e2 := sb j m.toNat .slice3B (by omega) (by omega)
      refine ⟨m.toNat, ?_, by omega, by omega⟩
      cases lo with
      | none => simp [Instr.sliceBounds, e1, e2]
      | some i =>
        simp only [Option.getD_some] at *
        have e3 := sb i j.toNat .slice3C (by omega) (by omega)
        simp [Instr.sliceBounds, e1, e2, e3]
  | none =>
    cases hi with
    | none =>
      simp only [Option.getD_none] at *
      refine ⟨cap, ?_, by omega, by omega⟩
      cases lo with
      | none => simp [Instr.sliceBounds]
      | some i =>
        simp only [Option.getD_some] at *
        have e3 := sb i len .sliceB (by omega) (by omega)
        simp [Instr.sliceBounds, e3]
    | some j =>
      simp only [Option.getD_some] at *
      have e2 := sb j cap (if z = true then .sliceAcap else .sliceAlen) (by omega) (by omega)
      refine ⟨cap, ?_, by omega, by omega⟩
      cases lo with
      | none => simp [Instr.sliceBounds, e2]
      | some i =>
        simp only [Option.getD_some] at *
        have e3 := sb i j.toNat .sliceB (by omega) (by omega)
        simp [Instr.sliceBounds, e2, e3]
theorem rows_cap {v : Value} {h : Hp} (r : rows sz v xs h) (h0 : xs ≠ []) : ∃ b off cap T all fz, v = .slice (some ⟨b, off, none⟩) xs.length cap ∧ h = single b (.cells ⟨all⟩ T fz) ∧ xs.flatten <+: all.drop off ∧ xs.length ≤ cap := by
  obtain ⟨_, _, ⟨h1, _⟩ | h1⟩ := r
  · exact absurd h1 h0
  · exact h1
/-- A part of a list that is read. (That a slice's length is at most its capacity is asked of it.) -/
theorem G.slr {o : Operand} {st e : TypeId} {lo hi mx : Option Operand} {li hj mk : Option Int} (h0 : Ev E o v E0) (h1 : Evo E0 lo li E1) (h2 : Evo E1 hi hj E2) (h3 : Evo E2 mx mk E') (m : rows sz v xs ∈ R) (hcap : ∀ a l c, v = .slice a l c → l ≤ c)
    (hu : ∀ w, (underlying st).run C.P w = .ok (.slice e) w) (hs : ∀ w, (sizeOf e).run C.P w = .ok sz w) (hok : okS xs.length li hj mk) (hd : fr E' d C.n.n = true) :
    OpG C Q E L R ⟨some d, .slice st o lo hi mx, ty, pos, aft, gd⟩ (fun z : Value => ∀ a l c, z = .slice a l c → l ≤ c) (fun z => (d, z) :: E') (fun _ => L) (fun z => rows sz z (slc xs (li.getD 0).toNat (hj.getD xs.length).toNat) :: R) := fun a w K he hst kk => by
  obtain ⟨a0, b0⟩ := h0 _ a he
  obtain ⟨a1, b1⟩ := h1.ev b0
  obtain ⟨a2, b2⟩ := h2.ev b1
  obtain ⟨a3, b3⟩ := h3.ev b2
  obtain ⟨hp, hr, hin⟩ := hst.ro_at m
  obtain ⟨ad, cap, rfl⟩ := rows_shape hr
  have hle := hcap _ _ _ rfl
  obtain ⟨m', hb, hb1, hb2⟩ := run_bounds (P := C.P) (w := w) (z := true) hok hle
  obtain ⟨k1, k2, k3, _⟩ := hok
  have hrun : (execOp a.eval ⟨some d, .slice st o lo hi mx, ty, pos, aft, gd⟩).run C.P w = .ok (.value (.slice (if m' = (li.getD 0).toNat then ad else ad.map (·.add ((li.getD 0).toNat * sz))) ((hj.getD xs.length).toNat - (li.getD 0).toNat) (m' - (li.getD 0).toNat))) w := by
    simp [execOp, a0, a1, a2, a3, Instr.sliceAt, Instr.slice, hu, hs, hb]
  unfold Oper.wp
  rw [hrun]
  refine kk _ (fun a l c e => by cases e; omega) _ _ (b3.put hd) (hst.ro fun r hr' => ?_)
  rcases List.mem_cons.1 hr' with rfl | hm
  · refine ⟨_, m, fun h' hk' => ?_⟩
    obtain ⟨g1, g2, g3⟩ := hk'
    have hl : (slc xs (li.getD 0).toNat (hj.getD xs.length).toNat).length = (hj.getD xs.length).toNat - (li.getD 0).toNat := slc_len (by omega) (by omega)
    refine ⟨fun x hx => g1 x ?_, by omega, ?_⟩
    · unfold slc at hx; exact List.mem_of_mem_take (List.mem_of_mem_drop hx)
    · by_cases hz : (hj.getD xs.length).toNat - (li.getD 0).toNat = 0
      · left
        exact ⟨List.length_eq_zero_iff.1 (by omega), _, _, by rw [hz]⟩
      · right
        rcases g3 with ⟨rfl, _⟩ | ⟨b, off, cap', T, all, fz, e, rfl, hpre, hcl⟩
        · simp at k3 hz; omega
        · simp only [Value.slice.injEq, true_and] at e
          obtain ⟨rfl, rfl⟩ := e
          refine ⟨b, off + (li.getD 0).toNat * sz, m' - (li.getD 0).toNat, T, all, fz, ?_, rfl, ?_, by omega⟩
          · rw [hl, if_neg (by omega)]; simp [addr_add]
          · rw [← List.drop_drop]
            obtain ⟨r, hr⟩ := hpre
            rw [← hr]
            have hle2 : (li.getD 0).toNat * sz ≤ xs.flatten.length := by
              rw [flat_len g1]; exact Nat.mul_le_mul_right _ (by omega)
            rw [List.drop_append_of_le_length hle2]
            exact (flat_slc g1 _ _).trans (List.prefix_append _ _)
  · exact ⟨r, hm, fun _ x => x⟩
/-- a[:] of an array in a block. -/
theorem P.sla {o : Operand} {s e : TypeId} {len : Nat} (h : Ev E o (pt b off) E') (hu : ∀ w, (underlying s).run C.P w = .ok (.array len e) w) (hs : ∀ w, (sizeOf e).run C.P w = .ok sz w) :
    OpP C E ⟨some d, .slice s o none none none, ty, pos, aft, gd⟩ (.slice (some ⟨b, off, none⟩) len len) E' := fun a w he => by
  obtain ⟨h1, h2⟩ := h _ a he
  refine ⟨?_, h2⟩
  simp [execOp, h1, Instr.sliceAt, hu, Instr.sureAddr, Instr.sliceBounds, hs, addr_add]
theorem P.lena {o : Operand} {st e : TypeId} {ad : Option Addr} {c : Nat} (h : Ev E o (.slice ad n c) E') (hu : ∀ w, (underlying st).run C.P w = .ok (.slice e) w) :
    OpP C E ⟨some d, .call ⟨.builtin .len, #[o], #[st]⟩, ty, pos, aft, gd⟩ (N n) E' := fun a w he => by
  obtain ⟨h1, h2⟩ := h _ a he
  refine ⟨?_, h2⟩
  have := run_len (ty := ty) (a := ad) (n := n) (c := c) (w := w) (ats := #[st]) hu rfl
  simp [execOp, resolve, invoke, builtin, h1, this]
theorem P.ixa {o oi : Operand} {st e : TypeId} {i len c off' : Nat} {m : Int} (h : Ev E o (N m) E1) (hm : m = i) (h' : Ev E1 oi (.slice (some ⟨b, off, none⟩) len c) E') (hu : ∀ w, (underlying st).run C.P w = .ok (.slice e) w) (hs : ∀ w, (sizeOf e).run C.P w = .ok sz w)
    (hi : i + 1 ≤ len) (ho : off + i * sz = off') : OpP C E ⟨some d, .indexAddr st oi o, ty, pos, aft, gd⟩ (pt b off') E' := by
  subst hm; subst ho
  exact P.ixs h h' ⟨off, c, rfl, hi, rfl⟩ hu hs
/-- make. -/
theorem G.mks {o o' : Operand} {e : TypeId} {z : Value} {ti : TypeInfo} {by_ : Nat} {m : Int} (h : Ev E o (N m) E1) (h' : Ev E1 o' (N m) E') (hu : ∀ w, (underlying t).run C.P w = .ok (.slice e) w) (hs : ∀ w, (sizeOf e).run C.P w = .ok sz w) (ht : ∀ w, (typeInfo e).run C.P w = .ok ti w) (hti : ti.bytes = by_)
    (hz : ∀ w, (zeroValue e).run C.P w = .ok z w) (hc : z.cells = ⟨cs⟩) (hcl : cs.length = sz) (hp : Nat.blt 0 sz = true) (hb0 : Nat.blt 0 by_ = true) (hm : 0 ≤ m) (hm2 : m * by_ ≤ 140737488355328) (hd : fr E' d C.n.n = true) :
    OpG C Q E L R ⟨some d, .makeSlice t o o', ty, pos, aft, gd⟩ (fun _ : Value => True) (fun u => (d, u) :: E') (fun u => lst e sz u (List.replicate m.toNat cs) :: L) (fun _ => R) := fun a w K he hst k => by
  obtain ⟨h1, h2⟩ := h _ a he
  obtain ⟨h3, h4⟩ := h' _ a h2
  obtain ⟨mn, rfl⟩ : ∃ mn : Nat, m = mn := ⟨m.toNat, by omega⟩
  have hby : 0 < by_ := by simpa using hb0
  have hmb : mn * by_ ≤ 140737488355328 := by
    have h2 : ((mn * by_ : Nat) : Int) ≤ ((140737488355328 : Nat) : Int) := by rw [Int.natCast_mul]; exact hm2
    exact Int.ofNat_le.1 h2
  have hmn : mn ≤ 140737488355328 := Nat.le_trans (Nat.le_mul_of_pos_right _ hby) hmb
  have hw : IntKind.i64.wrap (mn : Int) = mn := by
    simp only [IntKind.wrap, IntKind.bits, IntKind.signed]; simp; omega
  subst hti
  have hnb : ¬ ((ti.bytes : Int) * (mn : Int) > 2 ^ 48) := by
    have : (ti.bytes : Int) * (mn : Int) = ((mn * ti.bytes : Nat) : Int) := by push_cast; exact Int.mul_comm _ _
    rw [this]; omega
  have hroom : ¬ (mn * ti.bytes > roomBytes) := by unfold roomBytes; omega
  have hsz : 0 < sz := by simpa using hp
  have hcells : ∀ (A : Array Value), A = z.cells → ((Array.range (mn * sz)).map fun x => A[x % A.size]!) = ⟨(List.replicate mn cs).flatten⟩ := by
    rintro A rfl
    rw [hc]
    apply Array.ext'
    simp only [Array.toList_map, Array.toList_range]
    apply List.ext_getElem?
    intro i
    have hfl : (List.replicate mn cs).flatten.length = mn * sz := by rw [flat_len (sz := sz) (by intro x hx; rw [List.eq_of_mem_replicate hx, hcl])]; simp
    by_cases hi : i < mn * sz
    · have hmod : i % cs.length < cs.length := Nat.mod_lt _ (by omega)
      rw [List.getElem?_map, List.getElem?_range hi, Option.map_some]
      have hdiv : i / sz < mn := Nat.div_lt_of_lt_mul (by rw [Nat.mul_comm]; exact hi)
      have hg : (List.replicate mn cs)[i / sz]? = some cs := by rw [List.getElem?_replicate, if_pos hdiv]
      obtain ⟨r, hr⟩ := flat_at (sz := sz) (xs := List.replicate mn cs) (by intro x hx; rw [List.eq_of_mem_replicate hx, hcl]) hg
      have hx : (List.replicate mn cs).flatten[i]? = cs[i % sz]? := by
        have e : i = i / sz * sz + i % sz := by rw [Nat.mul_comm]; exact (Nat.div_add_mod i sz).symm
        conv => lhs; rw [e, ← List.getElem?_drop, ← hr]
        rw [List.getElem?_append_left (by rw [hcl]; exact Nat.mod_lt _ hsz)]
      rw [hx]
      simp only [List.size_toArray, ← hcl]
      rw [List.getElem?_eq_getElem hmod]
      simp [hmod]
    · rw [List.getElem?_eq_none (by simp; omega), List.getElem?_eq_none (by omega)]
  have hrun : ∃ (w' : World), (execOp a.eval ⟨some d, .makeSlice t o o', ty, pos, aft, gd⟩).run C.P w = .ok (.value (.slice (some ⟨w.heap.size, 0, none⟩) mn mn)) w' ∧ Sat C.w0 C.D C.G (obj w.heap.size (.cells ⟨(List.replicate mn cs).flatten⟩ e) :: L) R w' := by
    refine ⟨{ w with heap := w.heap.push (.cells ⟨(List.replicate mn cs).flatten⟩ e) }, ?_, hst.new _⟩
    by_cases h0 : mn = 0
    · subst h0
      simp [execOp, h1, h3, Instr.makeSlice, hu, ht, asInt, asIntOf, hw, askRoom, hs, newRow, roomBytes, show IntKind.i64.wrap 0 = 0 from rfl]
      congr 2
      apply Array.ext'; simp
    · have hne : ¬ (mn * sz = 0) := by
        intro h; rcases Nat.mul_eq_zero.1 h with h | h <;> omega
      have hz' := hcells z.cells rfl
      simp only [gt_iff_lt, Int.not_lt] at hnb
      simp [execOp, h1, h3, Instr.makeSlice, hu, ht, asInt, asIntOf, hw, Int.not_lt.2 hnb, askRoom, hroom, hs, hz, newRow, h0, hne, hz']
      intro hh
      exfalso
      have h9 : ((ti.bytes : Int) * (mn : Int)) ≤ 281474976710656 := hnb
      omega
  obtain ⟨w', hr, hs'⟩ := hrun
  unfold Oper.wp
  rw [hr]
  refine k _ trivial _ _ (h4.put hd) (hs'.conseq fun hh hb' => ?_)
  refine ⟨by intro x hx; rw [List.eq_of_mem_replicate hx, hcl], by simp; omega, .inr ⟨w.heap.size, mn, [], [], ?_, ?_, by simp, by simp⟩⟩
  · simp
  · rw [hb']; simp
/-- A store into an element of a list of one's own. -/
theorem G.stx {o ov : Operand} {i : Nat} {x : List Value} {z : Value} (h : Ev E ov z E1) (h' : Ev E1 o (pt b (off + k)) E') (hq : IsIx v sz n i b off) (tk : Tk (lst T sz v xs) L L') (hx : xs[i]? = some x) (hv : StV C.P t x k z cs') :
    OpG C Q E L R ⟨none, .store t o ov, ty, pos, aft, gd⟩ (fun _ : Unit => True) (fun _ => E') (fun _ => lst T sz v (xs.set i cs') :: L') (fun _ => R) := fun a w K he hs kk => by
  obtain ⟨h1, h2⟩ := h _ a he
  obtain ⟨h3, h4⟩ := h' _ a h2
  obtain ⟨hz, hone, hlen, rfl⟩ := hv
  obtain ⟨o', c, rfl, hlt, rfl⟩ := hq
  have hst := hs.take tk
  obtain ⟨g1, g2, ⟨rfl, _, _⟩ | ⟨b2, cap, pre, ext, e, hs0, hc1, hc2⟩⟩ := hst.open_lst
  · simp at hx
  simp only [Value.slice.injEq, Option.some.injEq, Addr.mk.injEq, and_true] at e
  obtain ⟨⟨rfl, rfl⟩, rfl, rfl⟩ := e
  have hxl : x.length = sz := g1 x (List.mem_of_getElem? hx)
  have hi : i < xs.length := (List.getElem?_eq_some_iff.1 hx).1
  have hsplit : xs = xs.take i ++ x :: xs.drop (i + 1) := by
    have e : xs.drop i = x :: xs.drop (i + 1) := by rw [List.drop_eq_getElem_cons hi, (List.getElem?_eq_some_iff.1 hx).2]
    rw [← e, List.take_append_drop]
  have hset : xs.set i (x.take k ++ z.cells.toList ++ x.drop (k + z.cells.size)) = xs.take i ++ (x.take k ++ z.cells.toList ++ x.drop (k + z.cells.size)) :: xs.drop (i + 1) := List.set_eq_take_append_cons_drop .. |>.trans (if_pos hi)
  have hpl : (xs.take i).flatten.length = i * sz := by
    rw [flat_len (fun y hy => g1 y (List.mem_of_mem_take hy))]; simp [Nat.min_eq_left (Nat.le_of_lt hi)]
  have hflat : xs.flatten = (xs.take i).flatten ++ x ++ (xs.drop (i + 1)).flatten := by
    conv => lhs; rw [hsplit]
    simp
  have hzl : z.cells.toList.length = z.cells.size := by simp
  obtain ⟨w', hr, e1, e2, e3, e4, e5, e6⟩ := run_storeCells (P := C.P) z.cells.toList w b (pre.length + i * sz + k) 0 T _ hs0.blk_at hone (by
    simp only [List.length_append, hflat, hpl, hzl]; omega)
  have hrun : (execOp a.eval ⟨none, .store t o ov, ty, pos, aft, gd⟩).run C.P w = .ok .skip w' := by
    simp only [execOp, h1, h3, Instr.storeAt, Instr.sureAddr, storeVar, Sem.run_bind, Sem.run_pure, Result.andThen_ok, hz, ne_eq, not_true_eq_false, if_false]
    rw [hr]; rfl
  unfold Oper.wp
  rw [hrun]
  refine kk () trivial _ _ h4 ?_
  refine (Sat.put (o := .cells ⟨pre ++ xs.flatten ++ ext⟩ T (0, 0)) hs0 _ e1 e2 e3 e4 e5 e6).conseq fun hh hb => ?_
  rw [hset]
  refine ⟨fun y hy => ?_, by simp; omega, .inr ⟨b, c, pre, ext, ?_, ?_, by simp; omega, ?_⟩⟩
  · rcases List.mem_append.1 hy with h | h
    · exact g1 y (List.mem_of_mem_take h)
    · rcases List.mem_cons.1 h with rfl | h
      · simp; omega
      · exact g1 y (List.mem_of_mem_drop h)
  · have : (xs.take i ++ (x.take k ++ z.cells.toList ++ x.drop (k + z.cells.size)) :: xs.drop (i + 1)).length = xs.length := by simp; omega
    rw [this]
  · rw [hb]
    have hl1 : pre.length + i * sz + k = (pre ++ (xs.take i).flatten).length + k := by simp [hpl]
    have e9 : pre ++ xs.flatten ++ ext = (pre ++ (xs.take i).flatten) ++ (x ++ ((xs.drop (i + 1)).flatten ++ ext)) := by rw [hflat]; simp
    simp only [Nat.add_zero]
    rw [hl1, e9, hzl]
    rw [List.take_append, List.take_of_length_le (by omega), Nat.add_sub_cancel_left, List.take_append_of_le_length (by omega)]
    rw [Nat.add_assoc, List.drop_append, List.drop_of_length_le (by omega), Nat.add_sub_cancel_left, List.drop_append_of_le_length (by omega)]
    simp
  · have : (xs.take i ++ (x.take k ++ z.cells.toList ++ x.drop (k + z.cells.size)) :: xs.drop (i + 1)).length = xs.length := by simp; omega
    rw [this]; exact hc2
theorem run_eqs {P : Program} {w : World} {e st : TypeId} {ad : Option Addr} {l c : Nat} {ox oy : Operand} (hu : P.underlying st = some (.slice e)) :
    (do eqGuard .eql st ox oy (.slice ad l c) nilSl; binOp .eql st (.slice ad l c) nilSl : Sem Value).run P w = .ok (Bo ad.isNone) w := by
  rw [Sem.run_bind]
  have h1 : (eqGuard .eql st ox oy (.slice ad l c) nilSl).run P w = .ok () w := by simp [eqGuard]
  rw [h1, Result.andThen_ok]
  exact Go.Lib.run_eql_slice_nil _ _ _ _ _ _ _ _ hu
/-- A list held against nil: where it is nil nothing is in it. -/
theorem G.nilr {o : Operand} {st st' e : TypeId} (h : Ev E o v E') (m : rows sz v xs ∈ R) (hu : C.P.underlying st = some (.slice e)) (hd : fr E' d C.n.n = true) :
    OpG C Q E L R ⟨some d, .binOp .eql st o (.const nilSl) st', ty, pos, aft, gd⟩ (fun z : Bool => z = true → xs = []) (fun z => (d, Bo z) :: E') (fun _ => L) (fun _ => R) := fun a w K he hst kk => by
  obtain ⟨h1, h2⟩ := h _ a he
  obtain ⟨hp, hr, hin⟩ := hst.ro_at m
  have key : ∃ z, (execOp a.eval ⟨some d, .binOp .eql st o (.const nilSl) st', ty, pos, aft, gd⟩).run C.P w = .ok (.value (Bo z)) w ∧ (z = true → xs = []) := by
    obtain ⟨g1, g2, g3⟩ := hr
    have hs : ∃ ad l c, v = .slice ad l c ∧ (ad.isNone = true → xs = []) := by
      rcases g3 with ⟨rfl, ad, c, rfl⟩ | ⟨b, off, cap, T, all, fz, rfl, _⟩
      · exact ⟨ad, 0, c, rfl, fun _ => rfl⟩
      · exact ⟨_, _, _, rfl, fun h => by simp at h⟩
    obtain ⟨ad, l, c, rfl, hz⟩ := hs
    refine ⟨ad.isNone, ?_, hz⟩
    have := run_eqs (P := C.P) (w := w) (ad := ad) (l := l) (c := c) (ox := o) (oy := .const nilSl) hu
    simp only [execOp, h1]
    have hc : a.eval (.const nilSl) = nilSl := rfl
    rw [hc, Sem.run_bind, this]
    rfl
  obtain ⟨z, hrun, hz⟩ := key
  unfold Oper.wp
  rw [hrun]
  exact kk z hz _ _ (h2.put hd) hst
theorem rows_lecap {v : Value} {h : Hp} (r : rows sz v xs h) : ∀ a l c, v = .slice a l c → l ≤ c := fun a l c e => by
  obtain ⟨_, _, ⟨rfl, ad, c', rfl⟩ | ⟨b, off, cap, T, all, fz, rfl, _, _, hc⟩⟩ := r
  · cases e; omega
  · cases e; exact hc
theorem Post.capq (m : rows sz v xs ∈ R) (k : (∀ a l c, v = .slice a l c → l ≤ c) → Post C E L R K) : Post C E L R K := .rfact m (fun h r => rows_lecap r) k
/-- It is a slice. -/
def IsSl (v : Value) : Prop := ∃ a n c, v = .slice a n c
theorem IsSl.mk {a : Option Addr} {n c : Nat} : IsSl (.slice a n c) := ⟨_, _, _, rfl⟩
theorem onec (h : IsSl v) : v.oneCell' = true := by obtain ⟨_, _, _, rfl⟩ := h; rfl
theorem IsSl.cells (h : IsSl v) : v.cells = ⟨[v]⟩ := by obtain ⟨_, _, _, rfl⟩ := h; rfl
theorem rows_isSl {v : Value} {h : Hp} (r : rows sz v xs h) : IsSl v := by
  obtain ⟨a, c, rfl⟩ := rows_shape r
  exact .mk
theorem Post.celr (m : rows sz v xs ∈ R) (k : IsSl v → Post C E L R K) : Post C E L R K := .rfact m (fun h r => rows_isSl r) k
theorem Post.cell (tk : Tk (lst T sz v xs) L L') (k : IsSl v → Post C E L R K) : Post C E L R K := .fact tk (fun h r => rows_isSl (lst_rows r)) k
theorem QP.rnd {P : Program} {l : Nat} {R : Ending → World → Prop} : QP (roundPost P l R) := ⟨fun c d v a w h => h, fun a w h => h⟩
theorem QP.fls : QP (fun _ _ _ => False) := ⟨fun c d v a w h => h, fun a w h => h⟩
theorem Wn.un {o : Oper} {j s : Nat} {zz : Bool} (h : o.guard = some (j, zz)) (hj : (ops[j]?).bind (·.dst) = some s) (hm : Ev E (.tmp s) undef E') : Wn E ops o false := fun n a he => by
  have := (hm n a he).1
  simp only [Act.eval, Array.getD_eq_getD_getElem?] at this
  have hy : yielded ops a.tmps j = none := by
    unfold yielded
    rw [hj]
    cases h2 : a.tmps[s]? with
    | none => simp [h2]
    | some v => rw [h2] at this; simp at this; subst this; simp [h2, undef]
  simp [Region.wanted, h, hy]
theorem Post.gw {o : Oper} (hw : Wn E ops o false) (hd : (match o.dst with | some d => E.all fun x => x.1 != d | none => true) = true) (h : Post C E L R (wL C.P ops Q rest)) : Post C E L R (wL C.P ops Q (o :: rest)) := fun a w he hs => by
  unfold wL
  rw [if_neg (by rw [hw _ a he]; decide)]
  cases h1 : o.dst with
  | none => exact h _ _ he hs
  | some d => rw [h1] at hd; exact h _ _ (he.putn hd) hs
theorem Post.gwn {o : Oper} (hw : Wn E ops o false) (hd : (match o.dst with | some d => E.all fun x => x.1 != d | none => true) = true) (h : Post C E L R (wL C.P ops Q rest)) : Post C E L R (wL C.P ops Q (o :: rest)) := .gw hw hd h
theorem Post.gwu {o : Op} {g : Option (Nat × Bool)} (hw : Wn E ops ⟨some d, o, ty, pos, aft, g⟩ false) (hd : fr E d C.n.n = true) (h : Post C ((d, undef) :: E) L R (wL C.P ops Q rest)) : Post C E L R (wL C.P ops Q (⟨some d, o, ty, pos, aft, g⟩ :: rest)) := fun a w he hs => by
  unfold wL
  rw [if_neg (by rw [hw _ a he]; decide)]
  exact h _ _ (he.put hd) hs
theorem Post.dsku {i m : Nat} {o : Oper} {S0 : World → Prop} {z : Bool} {rest : Pl} (ho : ops[i]? = some o) (hw : Wn E ops o false) (hd : o.dst = some d) (hf : fr E d C.n.n = true)
    (k : Post C ((d, undef) :: E) L R (lin C.P ops Q S0 m z rest)) : Post C E L R (lin C.P ops Q S0 m z (.on i .pu rest)) := fun a w he hs =>
  ⟨o, undef, ho, .inr ⟨hw _ a he, rfl⟩, by rw [hd]; exact k _ _ (he.put hf) hs⟩
theorem Post.dskgu {i m : Nat} {o : Oper} {S0 : World → Prop} {z : Bool} {rest : Pl} (ho : ops[i]? = some o) (hw : Wn E ops o false) (hS : (z || i == m) = true ∨ ∀ w, Sat C.w0 C.D C.G L R w → S0 w) (hd : o.dst = some d) (hf : fr E d C.n.n = true)
    (k : Post C ((d, undef) :: E) L R (lin C.P ops Q S0 m (z || i == m) rest)) : Post C E L R (lin C.P ops Q S0 m z (.on i .go rest)) := fun a w he hs => by
  unfold lin linG wpOp
  simp only [ho, hw _ a he, Bool.false_eq_true, if_false]
  exact ⟨hS.imp id fun f => f w hs, by rw [hd]; exact k _ _ (he.put hf) hs⟩
theorem Post.rhead (f : ∀ h, p h → q h) (h : Post C E L (q :: R) K) : Post C E L (p :: R) K := fun a w e s => h a w e (s.ro fun r hr => by
  rcases List.mem_cons.1 hr with rfl | hm
  · exact ⟨p, List.mem_cons_self, f⟩
  · exact ⟨r, List.mem_cons_of_mem _ hm, fun _ x => x⟩)
end
end Go.Sl
