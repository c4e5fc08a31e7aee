/- Pointers held against nil; strings and octets; growing out of nothing; cutting what is owned. -/
import Derived.Test.YtjlalcoommhfoaaGreatSlSlice
import Derived.Lib.ConvBytes
import Derived.Laws.BytesArg
import Derived.Laws.Pointers
set_option linter.unusedVariables false
set_option linter.unusedSimpArgs false
namespace Go.Sl
section
variable {C : Cx} {E E' E0 E1 E2 E3 : List (Nat × Value)} {L L' L1 R R' A B ro : List Asn} {K : Act → World → Prop} {Q : Exit → Act → World → Prop}
  {ops : Array Oper} {rest : List Oper} {d : Nat} {v x y u : Value} {ty : TypeId} {pos : String} {aft : Array Edge} {p q : Asn} {b : Nat} {T t : TypeId} {cs cs' : List Value} {off k n sz : Nat} {gd : Option (Nat × Bool)} {xs ys : List (List Value)}
theorem onez {z : Value} (h : z.oneCell' = true) : oneAll [z] = true := by simp [oneAll, h]
theorem cells1 {v : Value} (h : v.oneCell' = true) : v.cells = ⟨[v]⟩ := by
  cases v <;> first | rfl | (simp [Value.oneCell'] at h)
theorem StV.mk1 {P : Program} (hs : ∀ w, (sizeOf t).run P w = .ok n w) (hn : n = 1) (ho : v.oneCell' = true) (hl : Nat.ble (off + n) cs.length = true)
    (he : cs' = cs.take off ++ [v] ++ cs.drop (off + n)) : StV P t cs off v cs' := by
  subst hn
  have hc := cells1 ho
  refine .mk hs (by rw [hc]; rfl) (by rw [hc]; exact onez ho) hl (by rw [hc]; exact he)
theorem fill2 {v1 v2 : Value} (h1 : v1.oneCell' = true) (h2 : v2.oneCell' = true) : Instr.fill (fun i => some (i * 1, 1)) ((Array.range (2 * 1)).map fun x => (nilSl).cells[x % (nilSl).cells.size]!) [(0, v1), (1, v2)] = some ⟨[[v1], [v2]].flatten⟩ := by
  have e1 := cells1 h1; have e2 := cells1 h2
  have hr : ((Array.range 2).map fun x => (nilSl).cells[x % (nilSl).cells.size]!) = #[nilSl, nilSl] := by kernel_rfl
  simp [Instr.fill, e1, e2, hr]
theorem fill3 {v1 v2 v3 : Value} (h1 : v1.oneCell' = true) (h2 : v2.oneCell' = true) (h3 : v3.oneCell' = true) : Instr.fill (fun i => some (i * 1, 1)) ((Array.range (3 * 1)).map fun x => (nilSl).cells[x % (nilSl).cells.size]!) [(0, v1), (1, v2), (2, v3)] = some ⟨[[v1], [v2], [v3]].flatten⟩ := by
  have e1 := cells1 h1; have e2 := cells1 h2; have e3 := cells1 h3
  have hr : ((Array.range 3).map fun x => (nilSl).cells[x % (nilSl).cells.size]!) = #[nilSl, nilSl, nilSl] := by kernel_rfl
  simp [Instr.fill, e1, e2, e3, hr]
theorem BinV.ptr_eql {P : Program} {t e : TypeId} (hu : P.underlying t = some (.pointer e)) : BinV P .eql t (pt b off) nilp (Bo false) := fun ox oy w => by
  have h1 : (eqGuard .eql t ox oy (pt b off) nilp).run P w = .ok () w := by simp [eqGuard]
  rw [Sem.run_bind, h1, Result.andThen_ok]
  exact run_eql_pointer_nil w t _ (by rw [hu]; simp [Program.pointee, hu])
theorem BinV.ptr_neq {P : Program} {t e : TypeId} (hu : P.underlying t = some (.pointer e)) : BinV P .neq t (pt b off) nilp (Bo true) := fun ox oy w => by
  have h1 : (eqGuard .neq t ox oy (pt b off) nilp).run P w = .ok () w := by simp [eqGuard]
  rw [Sem.run_bind, h1, Result.andThen_ok]
  exact run_neq_pointer_nil w t _ (by rw [hu]; simp [Program.pointee, hu])
theorem P.xorW4 {o : Operand} {x : UInt32} {t : TypeId} (h : Ev E o (W4 x) E') : OpP C E ⟨some d, .unOp .xor t o, ty, pos, aft, gd⟩ (W4 (4294967295 ^^^ x)) E' := fun a w he => by
  obtain ⟨h1, h2⟩ := h _ a he
  have h3 := (BinV.xorW4 (P := C.P) (t := t) (x := 4294967295) (y := x)) o o w
  have hm : IntKind.u32.max = 4294967295 := by decide
  have h4 : (Op.intBits .xor .u32 4294967295 (x.toNat : Int)).run C.P w = .ok (W4 (4294967295 ^^^ x)) w := by
    simpa [eqGuard, binOp] using h3
  refine ⟨?_, h2⟩
  simp only [execOp, h1, Op.unary, hm]
  have : IntKind.u32.signed = false := rfl
  simp [this, h4]
/-- []byte(s): a new list; it is told as one that is read. -/
theorem G.s2b {o : Operand} {s : ByteArray} {src dst e : TypeId} (h : Ev E o (.string s) E') (hs : C.P.underlying src = some .string) (hd : C.P.underlying dst = some (.slice e)) (he : C.P.underlying e = some (.int .u8)) (hl : s.size ≤ 140737488355328) (hf : fr E' d C.n.n = true) :
    OpG C Q E L R ⟨some d, .convert src dst o, ty, pos, aft, gd⟩ (fun _ : Value => True) (fun u => (d, u) :: E') (fun _ => L) (fun u => rows 1 u (s.data.toList.map fun b => [B8 b]) :: R) := fun a w K he' hst kk => by
  obtain ⟨h1, h2⟩ := h _ a he'
  have hrun : (execOp a.eval ⟨some d, .convert src dst o, ty, pos, aft, gd⟩).run C.P w = .ok (.value (.slice (some ⟨w.heap.size, 0, none⟩) s.size (grownCap w s.size 0 e))) (Lib.bytesWorld w e s) := by
    simp only [execOp, h1]
    have := Lib.run_convert_string_bytes w src dst e s hs hd he
    rw [Sem.run_bind, this]; rfl
  unfold Oper.wp
  rw [hrun]
  have hw : (Lib.bytesWorld w e s).heap = w.heap.push (.cells (Lib.bytesCells w e s) e ((Lib.bytesCells w e s).size, (Lib.bytesCells w e s).size + 1)) := by
    apply Array.ext_getElem?
    intro i
    by_cases h1 : i < w.heap.size
    · rw [Lib.bytesWorld_at_old w e s i h1, Array.getElem?_push, if_neg (by omega)]
    · by_cases h2 : i = w.heap.size
      · subst h2; rw [Lib.bytesWorld_at_new]; simp
      · rw [Array.getElem?_eq_none (by rw [Lib.bytesWorld_size]; omega), Array.getElem?_eq_none (by simp; omega)]
  have hcells : (Lib.bytesCells w e s) = ⟨(s.data.toList.map fun b => [B8 b]).flatten ++ (Array.replicate (grownCap w s.size 0 e - s.size) (Value.int .u8 0)).toList⟩ := by
    unfold Lib.bytesCells
    have : ∀ l : List UInt8, (l.map fun b => [B8 b]).flatten = l.map fun b => B8 b := fun l => by induction l <;> simp_all
    rw [this]
    apply Array.ext'; simp
  have hst2 := ((hst.drewn (w.drawn + 1)).new (.cells (Lib.bytesCells w e s) e ((Lib.bytesCells w e s).size, (Lib.bytesCells w e s).size + 1))).freeze
  have hst3 : Sat C.w0 C.D C.G L (rows 1 (.slice (some ⟨w.heap.size, 0, none⟩) s.size (grownCap w s.size 0 e)) (s.data.toList.map fun b => [B8 b]) :: R) (Lib.bytesWorld w e s) := by
    refine (hst2.same (w' := Lib.bytesWorld w e s) rfl rfl rfl hw).ro fun r hr => ?_
    rcases List.mem_cons.1 hr with rfl | hm
    · refine ⟨_, List.mem_cons_self, fun hh hb => ?_⟩
      have hlen : (s.data.toList.map fun b => [B8 b]).length = s.size := by simp
      refine ⟨by intro x hx; obtain ⟨y, _, rfl⟩ := List.mem_map.1 hx; rfl, by omega, .inr ⟨w.heap.size, 0, grownCap w s.size 0 e, e, (Lib.bytesCells w e s).toList, ((Lib.bytesCells w e s).size, (Lib.bytesCells w e s).size + 1), by rw [hlen], hb, ?_, ?_⟩⟩
      · rw [hcells, List.drop_zero]; exact List.prefix_append _ _
      · rw [hlen]; unfold grownCap; simp only [Question.cut]; omega
    · exact ⟨r, List.mem_cons_of_mem _ hm, fun _ x => x⟩
  exact kk _ trivial _ _ (h2.put hf) hst3
theorem run_b2s {P : Program} {w : World} {src dst e : TypeId} {v : Value} {l : List UInt8} {k : Hp} (hs : P.underlying src = some (.slice e)) (he : P.underlying e = some (.int .u8)) (hd : P.underlying dst = some .string)
    (hr : rows 1 v (l.map fun x => [B8 x]) k) (hk : k.In w) : (convert src dst v).run P w = .ok (.string ⟨⟨l⟩⟩) w := by
  obtain ⟨h1, h2, h3⟩ := hr
  have hfl : ∀ l : List UInt8, (l.map fun b => [B8 b]).flatten = l.map fun b => B8 b := fun l => by induction l <;> simp_all
  rcases h3 with ⟨h0, a, c, rfl⟩ | ⟨b, off, cap, T, all, fz, rfl, rfl, hp, hc⟩
  · have : l = [] := by simpa using h0
    subst this
    rw [run_convert_bytes_string w src dst e a 0 c hs he hd]
    cases a <;> simp [Conv.bytesToString, loadCells, loadCellsFrom] <;> rfl
  · have hld := run_load_at (P := P) (w := w) (b := b) (o := off) (T := T) (all := all) (cs := l.map fun b => B8 b) (fz := fz) (hk b _ (by simp [single])) (by rw [← hfl]; exact hp)
    rw [List.length_map] at hld
    rw [List.length_map, run_convert_bytes_string w src dst e _ _ cap hs he hd]
    have e1 : (l.map fun b => B8 b) = (l.map fun b => (b.toNat : Int)).map (Value.int .u8) := by simp
    rw [e1] at hld
    rw [run_bytesToString w _ l.length cap _ hld]
    have : ∀ (l : List UInt8) (r : ByteArray), (l.map (fun b => (b.toNat : Int))).foldl (fun r n => r.push (UInt8.ofNat n.toNat)) r = ⟨r.data ++ l.toArray⟩ := by
      intro l
      induction l with
      | nil => intro r; simp
      | cons b l ih =>
        intro r
        simp only [List.map_cons, List.foldl_cons]
        rw [ih]
        simp [ByteArray.push]
    rw [this]
    simp [ByteArray.empty, ByteArray.emptyWithCapacity]
    rfl
/-- string(b). -/
theorem V.b2s {o : Operand} {l : List UInt8} {src dst e : TypeId} (h : Ev E o v E') (m : rows 1 v (l.map fun x => [B8 x]) ∈ R) (hs : C.P.underlying src = some (.slice e)) (he : C.P.underlying e = some (.int .u8)) (hd : C.P.underlying dst = some .string) :
    OpV C E L R ⟨some d, .convert src dst o, ty, pos, aft, gd⟩ (.string ⟨⟨l⟩⟩) E' := fun a w he' hst => by
  obtain ⟨h1, h2⟩ := h _ a he'
  obtain ⟨k, hk, hin⟩ := hst.ro_at m
  refine ⟨?_, h2⟩
  simp only [execOp, h1]
  rw [Sem.run_bind, run_b2s hs he hd hk hin]; rfl
theorem V.b2sl {o : Operand} {l : List UInt8} {src dst e : TypeId} (h : Ev E o v E') (tk : Tk (lst T 1 v (l.map fun x => [B8 x])) L L') (hs : C.P.underlying src = some (.slice e)) (he : C.P.underlying e = some (.int .u8)) (hd : C.P.underlying dst = some .string) :
    OpV C E L R ⟨some d, .convert src dst o, ty, pos, aft, gd⟩ (.string ⟨⟨l⟩⟩) E' := fun a w he' hst => by
  obtain ⟨h1, h2⟩ := h _ a he'
  obtain ⟨k, hk, hin⟩ := (hst.take tk).own_at
  refine ⟨?_, h2⟩
  simp only [execOp, h1]
  rw [Sem.run_bind, run_b2s hs he hd (lst_rows hk) hin]; rfl
/-- cap of nothing. -/
theorem P.capn {o : Operand} {st e : TypeId} (h : Ev E o nilSl E') (hu : ∀ w, (underlying st).run C.P w = .ok (.slice e) w) :
    OpP C E ⟨some d, .call ⟨.builtin .cap, #[o], #[st]⟩, ty, pos, aft, gd⟩ (N 0) E' := fun a w he => by
  obtain ⟨h1, h2⟩ := h _ a he
  refine ⟨?_, h2⟩
  simp [execOp, resolve, invoke, builtin, h1, Builtin.cap_, hu, goInt]
theorem P.lenn {o : Operand} {st e : TypeId} (h : Ev E o nilSl E') (hu : ∀ w, (underlying st).run C.P w = .ok (.slice e) w) :
    OpP C E ⟨some d, .call ⟨.builtin .len, #[o], #[st]⟩, ty, pos, aft, gd⟩ (N 0) E' := P.lena h hu
/-- A part of nothing. -/
theorem P.sln {o oh : Operand} {st e : TypeId} (h : Ev E o nilSl E1) (h' : Ev E1 oh (N 0) E') (hu : ∀ w, (underlying st).run C.P w = .ok (.slice e) w) (hs : ∀ w, (sizeOf e).run C.P w = .ok sz w) :
    OpP C E ⟨some d, .slice st o none (some oh) none, ty, pos, aft, gd⟩ nilSl E' := fun a w he => by
  obtain ⟨h1, h2⟩ := h _ a he
  obtain ⟨h3, h4⟩ := h' _ a h2
  refine ⟨?_, h4⟩
  simp [execOp, h1, h3, Instr.sliceAt, Instr.slice, hu, hs, Instr.sliceBounds, Instr.sliceBound, asIntOf]
/-- The beginning of a list of one's own. -/
theorem G.sll {o oh : Operand} {st e : TypeId} {m : Int} (h : Ev E o v E1) (h' : Ev E1 oh (N m) E') (tk : Tk (lst T sz v xs) L L') (hu : ∀ w, (underlying st).run C.P w = .ok (.slice e) w) (hs : ∀ w, (sizeOf e).run C.P w = .ok sz w)
    (h0 : 0 ≤ m) (hm : m ≤ xs.length) (hd : fr E' d C.n.n = true) :
    OpG C Q E L R ⟨some d, .slice st o none (some oh) none, ty, pos, aft, gd⟩ (fun _ : Value => True) (fun u => (d, u) :: E') (fun u => lst T sz u (xs.take m.toNat) :: L') (fun _ => R) := fun a w K he hst kk => by
  obtain ⟨h1, h2⟩ := h _ a he
  obtain ⟨h3, h4⟩ := h' _ a h2
  have hst1 := hst.take tk
  obtain ⟨g1, g2, hh⟩ := hst1.open_lst
  have key : ∃ (ad : Option Addr) (cap : Nat), v = .slice ad xs.length cap ∧ xs.length ≤ cap := by
    rcases hh with ⟨rfl, rfl, _⟩ | ⟨b, cap, pre, ext, rfl, _, hc, _⟩
    · exact ⟨none, 0, rfl, Nat.le_refl _⟩
    · exact ⟨_, cap, rfl, hc⟩
  obtain ⟨ad, cap, rfl, hc⟩ := key
  obtain ⟨mm, rfl⟩ : ∃ mm : Nat, m = mm := ⟨m.toNat, by omega⟩
  have hrun : (execOp a.eval ⟨some d, .slice st o none (some oh) none, ty, pos, aft, gd⟩).run C.P w = .ok (.value (.slice ad mm cap)) w := by
    have hle : (mm : Int) ≤ (cap : Int) := by omega
    have hz : (ad.map fun a => a.add 0) = ad := by cases ad <;> simp [Addr.add]
    have hle' : mm ≤ cap := by omega
    have hz' : (if cap = 0 then ad else Option.map (fun x => x.add 0) ad) = ad := by split; rfl; exact hz
    simp [execOp, h1, h3, Instr.sliceAt, Instr.slice, hu, hs, Instr.sliceBounds, Instr.sliceBound, asIntOf, hle, hle', hz']
  unfold Oper.wp
  rw [hrun]
  refine kk _ trivial _ _ (h4.put hd) (hst1.conseq fun k hk => ?_)
  obtain ⟨a1, a2, a3⟩ := hk
  refine ⟨fun x hx => a1 x (List.mem_of_mem_take hx), by simp; omega, ?_⟩
  rcases a3 with ⟨rfl, e⟩ | ⟨b, cap', pre, ext, e, hb, c1, c2⟩
  · left
    simp only [List.length_nil] at hm
    obtain rfl : mm = 0 := by omega
    cases e
    exact ⟨by simp, rfl⟩
  · right
    simp only [Value.slice.injEq, true_and] at e
    obtain ⟨rfl, rfl⟩ := e
    have hl : (xs.take mm).length = mm := by simp; omega
    refine ⟨b, cap, pre, (xs.drop mm).flatten ++ ext, by rw [Int.toNat_natCast, hl], ?_, by rw [Int.toNat_natCast, hl]; omega, ?_⟩
    · rw [hb]
      have : xs.flatten = (xs.take mm).flatten ++ (xs.drop mm).flatten := by rw [← List.flatten_append, List.take_append_drop]
      rw [this]; simp
    · rw [List.length_append, flat_len (fun y hy => a1 y (List.mem_of_mem_drop hy)), List.length_drop, c2, Int.toNat_natCast, hl, ← Nat.add_mul]
      congr 1; omega
theorem zc_rep {A : Array Value} {sz mn : Nat} (hc : A = ⟨cs⟩) (hcl : cs.length = sz) (hsz : 0 < sz) : ((Array.range (mn * sz)).map fun x => A[x % A.size]!) = ⟨(List.replicate mn cs).flatten⟩ := by
  subst hc
  apply Array.ext'
  simp only [Array.toList_map, Array.toList_range]
  apply List.ext_getElem?
  intro i
  have hfl : (List.replicate mn cs).flatten.length = mn * sz := by rw [flat_len (sz := sz) (by intro x hx; rw [List.eq_of_mem_replicate hx, hcl])]; simp
  by_cases hi : i < mn * sz
  · have hmod : i % cs.length < cs.length := Nat.mod_lt _ (by omega)
    rw [List.getElem?_map, List.getElem?_range hi, Option.map_some]
    have hdiv : i / sz < mn := Nat.div_lt_of_lt_mul (by rw [Nat.mul_comm]; exact hi)
    have hg : (List.replicate mn cs)[i / sz]? = some cs := by rw [List.getElem?_replicate, if_pos hdiv]
    obtain ⟨r, hr⟩ := flat_at (sz := sz) (xs := List.replicate mn cs) (by intro x hx; rw [List.eq_of_mem_replicate hx, hcl]) hg
    have hx : (List.replicate mn cs).flatten[i]? = cs[i % sz]? := by
      have e : i = i / sz * sz + i % sz := by rw [Nat.mul_comm]; exact (Nat.div_add_mod i sz).symm
      conv => lhs; rw [e, ← List.getElem?_drop, ← hr]
      rw [List.getElem?_append_left (by rw [hcl]; exact Nat.mod_lt _ hsz)]
    rw [hx]
    simp only [List.size_toArray, ← hcl]
    rw [List.getElem?_eq_getElem hmod]
    simp [hmod]
  · rw [List.getElem?_eq_none (by simp; omega), List.getElem?_eq_none (by omega)]
/-- append(nil, make([]T, m)...). -/
theorem G.appn {o o' : Operand} {e st xt : TypeId} {kd : IntKind} {by_ : Nat} {ti : TypeInfo} {z : Value} {m : Int} (h : Ev E o nilSl E1) (h' : Ev E1 o' (N m) E')
    (hu : ∀ w, (underlying st).run C.P w = .ok (.slice e) w) (hux : ∀ w, (underlying xt).run C.P w = .ok (.int kd) w) (hs : ∀ w, (sizeOf e).run C.P w = .ok sz w)
    (ht : ∀ w, (typeInfo e).run C.P w = .ok ti w) (hti : ti.bytes = by_) (hby : Nat.blt 0 by_ = true) (hz : ∀ w, (zeroValue e).run C.P w = .ok z w) (hc : z.cells = ⟨cs⟩) (hcl : cs.length = sz) (hp : Nat.blt 0 sz = true)
    (hm0 : 0 ≤ m) (hm : m * by_ ≤ 70368744177664) (hd : fr E' d C.n.n = true) :
    OpG C Q E L R ⟨some d, .call ⟨.builtin .append, #[o, o'], #[st, xt]⟩, ty, pos, aft, gd⟩ (fun _ : Value => True) (fun v => (d, v) :: E') (fun v => lst e sz v (List.replicate m.toNat cs) :: L) (fun _ => R) := fun a w K he hst k => by
  obtain ⟨h1, h2⟩ := h _ a he
  obtain ⟨h3, h4⟩ := h' _ a h2
  obtain ⟨mn, rfl⟩ : ∃ mn : Nat, m = mn := ⟨m.toNat, by omega⟩
  subst hti
  have hby' : 0 < ti.bytes := by simpa using hby
  have hmb : mn * ti.bytes ≤ 70368744177664 := by
    have h2 : ((mn * ti.bytes : Nat) : Int) ≤ ((70368744177664 : Nat) : Int) := by rw [Int.natCast_mul]; exact hm
    exact Int.ofNat_le.1 h2
  have hmn : mn ≤ 70368744177664 := Nat.le_trans (Nat.le_mul_of_pos_right _ hby') hmb
  have hw : IntKind.i64.wrap (mn : Int) = mn := by
    simp only [IntKind.wrap, IntKind.bits, IntKind.signed]; simp; omega
  have hnb : ¬ ((mn : Int) * (ti.bytes : Int) > 2 ^ 48) := by
    have : (mn : Int) * (ti.bytes : Int) = ((mn * ti.bytes : Nat) : Int) := by push_cast; rfl
    rw [this]; omega
  have hsz : 0 < sz := by simpa using hp
  have hzc : ∀ n, Builtin.zeroCells z.cells n = ⟨(List.replicate n cs).flatten⟩ := fun n => by
    have := zc_rep (A := z.cells) (mn := n) hc hcl hsz
    have hsz2 : z.cells.size = sz := by rw [hc]; simpa using hcl
    unfold Builtin.zeroCells
    rw [hsz2] at this ⊢
    exact this
  have hrl : ∀ x ∈ List.replicate mn cs, x.length = sz := fun x hx => by rw [List.eq_of_mem_replicate hx, hcl]
  simp only [gt_iff_lt, Int.not_lt] at hnb
  have hrun : ∃ (s' : Value) (w' : World), (execOp a.eval ⟨some d, .call ⟨.builtin .append, #[o, o'], #[st, xt]⟩, ty, pos, aft, gd⟩).run C.P w = .ok (.value s') w' ∧ Sat C.w0 C.D C.G (lst e sz s' (List.replicate mn cs) :: L) R w' := by
    by_cases h0 : mn = 0
    · subst h0
      refine ⟨nilSl, w, ?_, ?_⟩
      · simp [execOp, resolve, invoke, builtin, h1, h3, Builtin.append_, hu, hux, hs, ht, asInt, asIntOf, show IntKind.i64.wrap 0 = 0 from rfl]
      · obtain ⟨hh, g, c1, c2, c3, c4, c5, c6, c7⟩ := hst.own
        refine ⟨hst.os, hst.tape, hst.output, hst.size, hst.keep, hh, g, ⟨fun _ => none, hh, by funext b; simp [un], fun _ => .inl rfl, ⟨by simp, by simp, .inl ⟨rfl, rfl⟩⟩, c1⟩, c2, c3, c4, c5, c6, c7⟩
    · have hfit : Builtin.nextslicecap mn 0 * ti.bytes ≤ 281474976710656 := by
        have := growslice_fits (need := mn) (old := 0) (bytes := ti.bytes) (by omega) (by omega)
        exact this
      generalize hq : Question.cut (.appendCap mn 0 e) (w.tape w.drawn (.appendCap mn 0 e)) = nc
      have hnc : mn ≤ nc := by rw [← hq]; simp only [Question.cut]; omega
      refine ⟨.slice (some ⟨w.heap.size, 0, none⟩) mn nc, { w with drawn := w.drawn + 1, heap := w.heap.push (.cells ⟨(List.replicate mn cs).flatten ++ (List.replicate (nc - mn) cs).flatten⟩ e) }, ?_, ((hst.drewn (w.drawn + 1)).new (.cells ⟨(List.replicate mn cs).flatten ++ (List.replicate (nc - mn) cs).flatten⟩ e)).conseq fun hh hb => ?_⟩
      · have h5 : ¬ (2 ^ 48 < (mn : Int) * (ti.bytes : Int)) := by omega
        have h6 : ¬ (281474976710656 < Builtin.nextslicecap mn 0 * ti.bytes) := by omega
        have h7 : ¬ (IntKind.i64.max < (mn : Int)) := by
          have : IntKind.i64.max = 9223372036854775807 := by decide
          rw [this]; omega
        have h8 : ti.bytes ≠ 0 := by omega
        have h9 : ¬ ((mn : Int) < 0) := by omega
        have h10 : ¬ (mn * sz = 0) := by
          intro h; rcases Nat.mul_eq_zero.1 h with h | h <;> omega
        have h11 : sz ≠ 0 := by omega
        simp [execOp, resolve, invoke, builtin, h1, h3, Builtin.append_, hu, hux, hs, ht, asInt, asIntOf, hw, h5, h6, h7, h9, h0, h10, h11, Builtin.firstCells, Question.forced, hq, hz, newRow, hzc]
        have h12 : ¬ (281474976710656 < (mn : Int) * (ti.bytes : Int)) := by omega
        have h13 : ¬ (9223372036854775807 < (mn : Int)) := by omega
        rw [if_neg h12, if_neg h13]
        rfl
      · refine ⟨hrl, by simp; omega, .inr ⟨w.heap.size, nc, [], (List.replicate (nc - mn) cs).flatten, by simp, by rw [hb]; simp, by simpa using hnc, ?_⟩⟩
        rw [flat_len (sz := sz) (by intro x hx; rw [List.eq_of_mem_replicate hx, hcl])]; simp
  obtain ⟨s', w', hr, hs'⟩ := hrun
  unfold Oper.wp
  rw [hr]
  exact k s' trivial _ _ (h4.put hd) hs'
/-- The end of a slice, from number m on. -/
def Tlv (v : Value) (sz m n : Nat) (u : Value) : Prop := ∃ a c, v = .slice a n c ∧ u = .slice (if c = m then a else a.map (·.add (m * sz))) (n - m) (c - m)
theorem G.slt {o ol : Operand} {st e : TypeId} {m : Int} (h : Ev E o v E1) (h' : Ev E1 ol (N m) E') (tk : Tk (lst T sz v xs) L L') (hu : ∀ w, (underlying st).run C.P w = .ok (.slice e) w) (hs : ∀ w, (sizeOf e).run C.P w = .ok sz w)
    (h0 : 0 ≤ m) (hm : m ≤ xs.length) (hd : fr E' d C.n.n = true) :
    OpG C Q E L R ⟨some d, .slice st o (some ol) none none, ty, pos, aft, gd⟩ (fun u : Value => Tlv v sz m.toNat xs.length u) (fun u => (d, u) :: E') (fun _ => L) (fun _ => R) := fun a w K he hst kk => by
  obtain ⟨h1, h2⟩ := h _ a he
  obtain ⟨h3, h4⟩ := h' _ a h2
  have hst1 := hst.take tk
  obtain ⟨g1, g2, hh⟩ := hst1.open_lst
  have key : ∃ (ad : Option Addr) (cap : Nat), v = .slice ad xs.length cap ∧ xs.length ≤ cap := by
    rcases hh with ⟨rfl, rfl, _⟩ | ⟨b, cap, pre, ext, rfl, _, hc, _⟩
    · exact ⟨none, 0, rfl, Nat.le_refl _⟩
    · exact ⟨_, cap, rfl, hc⟩
  obtain ⟨ad, cap, rfl, hc⟩ := key
  obtain ⟨mm, rfl⟩ : ∃ mm : Nat, m = mm := ⟨m.toNat, by omega⟩
  have hrun : (execOp a.eval ⟨some d, .slice st o (some ol) none none, ty, pos, aft, gd⟩).run C.P w = .ok (.value (.slice (if cap = mm then ad else ad.map (·.add (mm * sz))) (xs.length - mm) (cap - mm))) w := by
    have hle : mm ≤ xs.length := by omega
    simp [execOp, h1, h3, Instr.sliceAt, Instr.slice, hu, hs, Instr.sliceBounds, Instr.sliceBound, asIntOf, hle]
  unfold Oper.wp
  rw [hrun]
  exact kk _ ⟨ad, cap, rfl, rfl⟩ _ _ (h4.put hd) hst
theorem one_rep {n : Nat} (h : oneAll cs = true) : oneAll (List.replicate n cs).flatten = true := by
  unfold oneAll at *
  rw [List.all_eq_true] at *
  intro x hx
  obtain ⟨l, hl, hx⟩ := List.mem_flatten.1 hx
  rw [List.eq_of_mem_replicate hl] at hx
  exact h x hx
theorem G.clr {o : Operand} {st e : TypeId} {z : Value} {m : Nat} (h : Ev E o u E') (hq : Tlv v sz m xs.length u) (tk : Tk (lst T sz v xs) L L') (hu : ∀ w, (underlying st).run C.P w = .ok (.slice e) w)
    (hz : ∀ w, (zeroValue e).run C.P w = .ok z w) (hc : z.cells = ⟨cs⟩) (hcl : cs.length = sz) (hp : Nat.blt 0 sz = true) (hone : oneAll cs = true) (hm : m ≤ xs.length) :
    OpG C Q E L R ⟨none, .call ⟨.builtin .clear, #[o], #[st]⟩, ty, pos, aft, gd⟩ (fun _ : Unit => True) (fun _ => E') (fun _ => lst T sz v (xs.take m ++ List.replicate (xs.length - m) cs) :: L') (fun _ => R) := fun a w K he hst kk => by
  obtain ⟨h1, h2⟩ := h _ a he
  have hst1 := hst.take tk
  obtain ⟨g1, g2, hh⟩ := hst1.open_lst
  obtain ⟨ad, c, hv, rfl⟩ := hq
  have hsz : 0 < sz := by simpa using hp
  have hzc : ∀ n, Builtin.zeroCells z.cells n = ⟨(List.replicate n cs).flatten⟩ := fun n => by
    have := zc_rep (A := z.cells) (mn := n) hc hcl hsz
    have hsz2 : z.cells.size = sz := by rw [hc]; simpa using hcl
    unfold Builtin.zeroCells
    rw [hsz2] at this ⊢
    exact this
  by_cases hmn : m = xs.length
  · -- nothing is cleared
    subst hmn
    have hrun : (execOp a.eval ⟨none, .call ⟨.builtin .clear, #[o], #[st]⟩, ty, pos, aft, gd⟩).run C.P w = .ok (.value (.tuple #[])) w := by
      have hl : (xs.length - xs.length) = 0 := Nat.sub_self _
      rw [hl] at h1
      cases hA : (if c = xs.length then ad else ad.map (·.add (xs.length * sz))) <;> rw [hA] at h1 <;> simp [execOp, resolve, invoke, builtin, h1, Builtin.clear_, hu]
    unfold Oper.wp
    rw [hrun]
    refine kk () trivial _ _ h2 ?_
    simpa using hst1
  · rcases hh with ⟨rfl, rfl, _⟩ | ⟨b, cap, pre, ext, rfl, hs0, hc1, hc2⟩
    · simp at hm; exact absurd (by simpa using hm) hmn
    · simp only [Value.slice.injEq, true_and] at hv
      obtain ⟨rfl, rfl⟩ := hv
      have hcm : ¬ cap = m := by omega
      rw [if_neg hcm] at h1
      have hadd : (⟨b, pre.length, none⟩ : Addr).add (m * sz) = ⟨b, pre.length + m * sz, none⟩ := addr_add _ _ _
      have hfl : (List.replicate (xs.length - m) cs).flatten.length = (xs.length - m) * sz := by rw [flat_len (sz := sz) (by intro x hx; rw [List.eq_of_mem_replicate hx, hcl])]; simp
      have hxl : xs.flatten.length = xs.length * sz := flat_len g1
      have hmul : m * sz + (xs.length - m) * sz = xs.length * sz := by rw [← Nat.add_mul]; congr 1; omega
      obtain ⟨w', hr, e1, e2, e3, e4, e5, e6⟩ := run_storeCells (P := C.P) (List.replicate (xs.length - m) cs).flatten w b (pre.length + m * sz) 0 T _ hs0.blk_at (one_rep hone) (by
        simp only [List.length_append, hfl, hxl]; omega)
      have hne : xs.length - m ≠ 0 := by omega
      obtain ⟨q, hq⟩ : ∃ q, xs.length - m = q + 1 := ⟨xs.length - m - 1, by omega⟩
      have hrun : (execOp a.eval ⟨none, .call ⟨.builtin .clear, #[o], #[st]⟩, ty, pos, aft, gd⟩).run C.P w = .ok (.value (.tuple #[])) w' := by
        rw [hq] at hr h1
        simp [execOp, resolve, invoke, builtin, h1, Builtin.clear_, hu, hadd, hz, hzc, hr]
      unfold Oper.wp
      rw [hrun]
      refine kk () trivial _ _ h2 ((Sat.put (o := .cells ⟨pre ++ xs.flatten ++ ext⟩ T (0, 0)) hs0 _ e1 e2 e3 e4 e5 e6).conseq fun hh hb => ?_)
      have hl2 : (xs.take m ++ List.replicate (xs.length - m) cs).length = xs.length := by simp; omega
      refine ⟨fun x hx => ?_, by omega, .inr ⟨b, cap, pre, ext, by rw [hl2], ?_, by omega, by rw [hl2]; exact hc2⟩⟩
      · rcases List.mem_append.1 hx with h | h
        · exact g1 x (List.mem_of_mem_take h)
        · rw [List.eq_of_mem_replicate h]; exact hcl
      · rw [hb]
        have hpl : (xs.take m).flatten.length = m * sz := by rw [flat_len (fun y hy => g1 y (List.mem_of_mem_take hy))]; simp [Nat.min_eq_left hm]
        have hsplit : xs.flatten = (xs.take m).flatten ++ (xs.drop m).flatten := by rw [← List.flatten_append, List.take_append_drop]
        have hdl : (xs.drop m).flatten.length = (xs.length - m) * sz := by rw [flat_len (fun y hy => g1 y (List.mem_of_mem_drop hy))]; simp
        have e9 : pre ++ xs.flatten ++ ext = (pre ++ (xs.take m).flatten) ++ ((xs.drop m).flatten ++ ext) := by rw [hsplit]; simp
        have hl1 : pre.length + m * sz = (pre ++ (xs.take m).flatten).length := by simp [hpl]
        simp only [Nat.add_zero]
        rw [hl1, e9, List.take_left, ← List.drop_drop, List.drop_left, List.drop_left' (by rw [hdl, hfl])]
        simp
/-- A part of a slice, told by the slice's value alone. -/
def slv (v : Value) (sz : Nat) (li hj mk : Option Int) : Value :=
  match v with
  | .slice a len cap => .slice (if (mk.getD cap).toNat = (li.getD 0).toNat then a else a.map (·.add ((li.getD 0).toNat * sz))) ((hj.getD len).toNat - (li.getD 0).toNat) ((mk.getD cap).toNat - (li.getD 0).toNat)
  | v => v
def SlN (v : Value) (n : Nat) : Prop := ∃ a c, v = .slice a n c ∧ n ≤ c
theorem run_boundsE {P : Program} {w : World} {z : Bool} {len cap : Nat} {lo hi mx : Option Int} (h : okS len lo hi mx) (hc : len ≤ cap) :
    (Instr.sliceBounds z len cap (lo.map (fun i => N i)) (hi.map (fun i => N i)) (mx.map (fun i => N i))).run P w = .ok ((lo.getD 0).toNat, (hi.getD len).toNat, (mx.getD cap).toNat) w ∧ (hi.getD len).toNat ≤ (mx.getD cap).toNat ∧ (mx.getD cap).toNat ≤ cap := by
  obtain ⟨h1, h2, h3, h4, h5⟩ := h
  have sb : ∀ (i : Int) (y : Nat) (c : BoundsCode), 0 ≤ i → i ≤ y → (Instr.sliceBound (N i) y c).run P w = .ok i.toNat w := fun i y c a b => by
    simp [Instr.sliceBound, asIntOf, a, b]
  cases mx with
  | some m =>
    obtain ⟨g1, g2⟩ := h4 m rfl
    cases hi with
    | none => simp at h5
    | some j =>
      simp only [Option.getD_some] at *
      have e1 := sb m cap (if z = true then .slice3Acap else .slice3Alen) (by omega) (by omega)
      have e2 := sb j m.toNat .slice3B (by omega) (by omega)
      refine ⟨?_, by omega, by omega⟩
      cases lo with
      | none => simp [Instr.sliceBounds, e1, e2]
      | some i =>
        simp only [Option.getD_some] at *
        have e3 := sb i j.toNat .slice3C (by omega) (by omega)
        simp [Instr.sliceBounds, e1, e2, e3]
  | none =>
    have hcc : ((none : Option Int).getD (cap : Int)).toNat = cap := rfl
    rw [hcc]
    cases hi with
    | none =>
      simp only [Option.getD_none] at *
      refine ⟨?_, by omega, by omega⟩
      cases lo with
      | none => simp [Instr.sliceBounds]
      | some i =>
        simp only [Option.getD_some] at *
        have e3 := sb i len .sliceB (by omega) (by omega)
        simp [Instr.sliceBounds, e3]
    | some j =>
      simp only [Option.getD_some] at *
      have e2 := sb j cap (if z = true then .sliceAcap else .sliceAlen) (by omega) (by omega)
      refine ⟨?_, by omega, by omega⟩
      cases lo with
      | none => simp [Instr.sliceBounds, e2]
      | some i =>
        simp only [Option.getD_some] at *
        have e3 := sb i j.toNat .sliceB (by omega) (by omega)
        simp [Instr.sliceBounds, e2, e3]
theorem P.slp {o : Operand} {st e : TypeId} {lo hi mx : Option Operand} {li hj mk : Option Int} {n : Nat} (h0 : Ev E o v E0) (h1 : Evo E0 lo li E1) (h2 : Evo E1 hi hj E2) (h3 : Evo E2 mx mk E') (hq : SlN v n)
    (hu : ∀ w, (underlying st).run C.P w = .ok (.slice e) w) (hs : ∀ w, (sizeOf e).run C.P w = .ok sz w) (hok : okS n li hj mk) :
    OpP C E ⟨some d, .slice st o lo hi mx, ty, pos, aft, gd⟩ (slv v sz li hj mk) E' := fun a w he => by
  obtain ⟨a0, b0⟩ := h0 _ a he
  obtain ⟨a1, b1⟩ := h1.ev b0
  obtain ⟨a2, b2⟩ := h2.ev b1
  obtain ⟨a3, b3⟩ := h3.ev b2
  obtain ⟨ad, cap, rfl, hle⟩ := hq
  obtain ⟨hb, hb1, hb2⟩ := run_boundsE (P := C.P) (w := w) (z := true) hok hle
  refine ⟨?_, b3⟩
  simp [execOp, a0, a1, a2, a3, Instr.sliceAt, Instr.slice, hu, hs, hb, slv]
theorem Post.slnq (m : rows sz v xs ∈ R) (k : SlN v xs.length → Post C E L R K) : Post C E L R K := .rfact m (fun h r => by
  have hc := rows_lecap r
  obtain ⟨a, c, rfl⟩ := rows_shape r
  exact ⟨a, c, rfl, hc _ _ _ rfl⟩) k
theorem rows_slv {v : Value} {li hj mk : Option Int} {hp : Hp} (hok : okS xs.length li hj mk) (r : rows sz v xs hp) : rows sz (slv v sz li hj mk) (slc xs (li.getD 0).toNat (hj.getD xs.length).toNat) hp := by
  have hcap := rows_lecap r
  obtain ⟨ad, cap, rfl⟩ := rows_shape r
  have hle := hcap _ _ _ rfl
  have hbd : (hj.getD xs.length).toNat ≤ (mk.getD cap).toNat ∧ (mk.getD cap).toNat ≤ cap := by
    obtain ⟨k1, k2, k3, k4, _⟩ := hok
    cases mk with
    | none => constructor <;> simp <;> omega
    | some m => obtain ⟨g1, g2⟩ := k4 m rfl; simp; omega
  obtain ⟨hb1, hb2⟩ := hbd
  obtain ⟨k1, k2, k3, _⟩ := hok
  obtain ⟨g1, g2, g3⟩ := r
  have hl : (slc xs (li.getD 0).toNat (hj.getD xs.length).toNat).length = (hj.getD xs.length).toNat - (li.getD 0).toNat := slc_len (by omega) (by omega)
  generalize hm' : (mk.getD cap).toNat = m' at *
  have hv : slv (.slice ad xs.length cap) sz li hj mk = .slice (if m' = (li.getD 0).toNat then ad else ad.map (·.add ((li.getD 0).toNat * sz))) ((hj.getD xs.length).toNat - (li.getD 0).toNat) (m' - (li.getD 0).toNat) := by simp [slv, hm']
  rw [hv]
  refine ⟨fun x hx => g1 x ?_, by omega, ?_⟩
  · unfold slc at hx; exact List.mem_of_mem_take (List.mem_of_mem_drop hx)
  · by_cases hz : (hj.getD xs.length).toNat - (li.getD 0).toNat = 0
    · left
      exact ⟨List.length_eq_zero_iff.1 (by omega), _, _, by rw [hz]⟩
    · right
      rcases g3 with ⟨rfl, _⟩ | ⟨b, off, cap', T, all, fz, e, rfl, hpre, hcl⟩
      · simp at k3 hz; omega
      · simp only [Value.slice.injEq, true_and] at e
        obtain ⟨rfl, rfl⟩ := e
        refine ⟨b, off + (li.getD 0).toNat * sz, m' - (li.getD 0).toNat, T, all, fz, ?_, rfl, ?_, by omega⟩
        · rw [hl, if_neg (by omega)]; simp [addr_add]
        · rw [← List.drop_drop]
          obtain ⟨r, hr⟩ := hpre
          rw [← hr]
          have hle2 : (li.getD 0).toNat * sz ≤ xs.flatten.length := by
            rw [flat_len g1]; exact Nat.mul_le_mul_right _ (by omega)
          rw [List.drop_append_of_le_length hle2]
          exact (flat_slc g1 _ _).trans (List.prefix_append _ _)
theorem Post.slgen {li hj mk : Option Int} (m : rows sz v xs ∈ R) (hok : okS xs.length li hj mk) (k : ∀ u, Post C ((d, u) :: E) L (rows sz u (slc xs (li.getD 0).toNat (hj.getD xs.length).toNat) :: R) K) : Post C ((d, slv v sz li hj mk) :: E) L R K :=
  fun a w e s => k _ a w e (s.ro fun r hr => by
    rcases List.mem_cons.1 hr with rfl | hm
    · exact ⟨_, m, fun _ => rows_slv hok⟩
    · exact ⟨r, hm, fun _ x => x⟩)
end
end Go.Sl
