/- Parts of blocks, arrays as values, numbers' least and greatest, strings' bytes. -/
import Derived.Test.YtjlalcoommhfoaaGreatSlEq
set_option linter.unusedVariables false
set_option linter.unusedSimpArgs false
namespace Go.Sl
section
variable {C : Cx} {E E' E1 E2 E3 : List (Nat × Value)} {L L' L1 R R' : List Asn} {K : Act → World → Prop} {Q : Exit → Act → World → Prop}
  {ops : Array Oper} {rest : List Oper} {d : Nat} {v x y u : Value} {ty : TypeId} {pos : String} {aft : Array Edge} {p q : Asn} {b : Nat} {T t : TypeId} {cs cs' : List Value} {off k n sz : Nat} {gd : Option (Nat × Bool)} {xs ys : List (List Value)}
theorem LdV.mid {P : Program} {a z : List Value} {o : Nat} (ho : a.length = o) (h : LdV P t cs k v) : LdV P t (a ++ cs ++ z) (o + k) v := fun w b o' T all fz hb hp => by
  subst ho
  rw [← Nat.add_assoc]
  refine h w b _ T all fz hb ?_
  obtain ⟨r, hr⟩ := hp
  refine ⟨z ++ r, ?_⟩
  rw [← List.drop_drop, ← hr, List.append_assoc, List.append_assoc, List.drop_left]
theorem LdV.mid0 {P : Program} {a z : List Value} {o : Nat} (ho : a.length = o) (h : LdV P t cs 0 v) : LdV P t (a ++ cs ++ z) o v := h.mid ho
theorem StV.mid {P : Program} {a z : List Value} {o : Nat} (ho : a.length = o) (h : StV P t cs k v cs') : StV P t (a ++ cs ++ z) (o + k) v (a ++ cs' ++ z) := by
  obtain ⟨h1, h2, h3, rfl⟩ := h
  subst ho
  refine ⟨h1, h2, by simp; omega, ?_⟩
  rw [List.append_assoc a cs z, List.take_append, List.take_of_length_le (by omega : a.length ≤ a.length + k), List.drop_append, List.drop_of_length_le (by omega : a.length ≤ a.length + k + v.cells.size)]
  simp only [Nat.add_sub_cancel_left, List.nil_append]
  rw [show a.length + k + v.cells.size - a.length = k + v.cells.size by omega, List.take_append_of_le_length (by omega), List.drop_append_of_le_length h3]
  simp [List.append_assoc]
theorem StV.mid0 {P : Program} {a z : List Value} {o : Nat} (ho : a.length = o) (h : StV P t cs 0 v cs') : StV P t (a ++ cs ++ z) o v (a ++ cs' ++ z) := h.mid ho
/-- arr[i], arr an array's value. -/
theorem P.idx {o oi : Operand} {s e : TypeId} {len i : Nat} {m : Int} (h' : Ev E oi (Ag cs) E1) (h : Ev E1 o (N m) E') (hm : m = i) (hu : ∀ w, (underlying s).run C.P w = .ok (.array len e) w)
    (hs : ∀ w, (sizeOf e).run C.P w = .ok n w) (hi : i + 1 ≤ len) (hp : PartV C.P e ⟨cs⟩ (i * n) v) : OpP C E ⟨some d, .index s oi o, ty, pos, aft, gd⟩ v E' := fun a w he => by
  obtain ⟨h1, h2⟩ := h' _ a he
  obtain ⟨h3, h4⟩ := h _ a h2
  subst hm
  refine ⟨?_, h4⟩
  simp [execOp, h1, h3, Instr.index, asIntOf, hu, hs, hp w, show i < len from hi]
theorem P.idxs {o oi : Operand} {s : TypeId} {i : Nat} {m : Int} {z : ByteArray} {c : UInt8} (h' : Ev E oi (.string z) E1) (h : Ev E1 o (N m) E') (hm : m = i) (hu : ∀ w, (underlying s).run C.P w = .ok .string w)
    (hi : z[i]? = some c) : OpP C E ⟨some d, .index s oi o, ty, pos, aft, gd⟩ (B8 c) E' := fun a w he => by
  obtain ⟨h1, h2⟩ := h' _ a he
  obtain ⟨h3, h4⟩ := h _ a h2
  subst hm
  refine ⟨?_, h4⟩
  simp [execOp, h1, h3, Instr.index, asIntOf, hu, hi]
theorem P.lens {o : Operand} {st : TypeId} {z : ByteArray} (h : Ev E o (.string z) E') (hu : ∀ w, (underlying st).run C.P w = .ok .string w) :
    OpP C E ⟨some d, .call ⟨.builtin .len, #[o], #[st]⟩, ty, pos, aft, gd⟩ (N (z.size : Nat)) E' := fun a w he => by
  obtain ⟨h1, h2⟩ := h _ a he
  refine ⟨?_, h2⟩
  simp [execOp, resolve, invoke, builtin, h1, Builtin.len_, hu, goInt]
theorem P.max2 {o o' : Operand} {ats : Array TypeId} {kd : IntKind} {m m' : Int} (h : Ev E o (.int kd m) E1) (h' : Ev E1 o' (.int kd m') E') :
    OpP C E ⟨some d, .call ⟨.builtin .max, #[o, o'], ats⟩, ty, pos, aft, gd⟩ (.int kd (if m' > m then m' else m)) E' := fun a w he => by
  obtain ⟨h1, h2⟩ := h _ a he
  obtain ⟨h3, h4⟩ := h' _ a h2
  refine ⟨?_, h4⟩
  simp [execOp, resolve, invoke, builtin, h1, h3, Builtin.max_, Builtin.max2]
theorem P.min2 {o o' : Operand} {ats : Array TypeId} {kd : IntKind} {m m' : Int} (h : Ev E o (.int kd m) E1) (h' : Ev E1 o' (.int kd m') E') :
    OpP C E ⟨some d, .call ⟨.builtin .min, #[o, o'], ats⟩, ty, pos, aft, gd⟩ (.int kd (if m' < m then m' else m)) E' := fun a w he => by
  obtain ⟨h1, h2⟩ := h _ a he
  obtain ⟨h3, h4⟩ := h' _ a h2
  refine ⟨?_, h4⟩
  simp [execOp, resolve, invoke, builtin, h1, h3, Builtin.min_, Builtin.min2]
def bat (z : ByteArray) (i : Int) : Option UInt8 := if 0 ≤ i then z[i.toNat]? else none
theorem bat_eq {z : ByteArray} {m : Int} {c : UInt8} (h : bat z m = some c) : ∃ i : Nat, m = i ∧ z[i]? = some c := by
  unfold bat at h
  split at h
  · exact ⟨m.toNat, by omega, h⟩
  · cases h
theorem P.fld {o : Operand} {s f : Nat} {fs : Array Field} {fd : Field} (h : Ev E o (Ag cs) E') (hu : ∀ w, (underlying s).run C.P w = .ok (.struct fs) w) (hf : fs[f]? = some fd) (hp : PartV C.P fd.type ⟨cs⟩ fd.offset v) :
    OpP C E ⟨some d, .field s o f, ty, pos, aft, gd⟩ v E' := fun a w he => by
  obtain ⟨h1, h2⟩ := h _ a he
  refine ⟨?_, h2⟩
  simp [execOp, h1, Instr.field, hu, hf, asAgg, hp w]
theorem rows_one {h : Hp} (r : rows sz v xs h) : v.oneCell' = true := by
  obtain ⟨a, c, rfl⟩ := rows_shape r
  rfl
theorem Post.oner (m : rows sz v xs ∈ R) (k : v.oneCell' = true → Post C E L R K) : Post C E L R K := .rfact m (fun h r => rows_one r) k
theorem Post.onel (tk : Tk (lst T sz v xs) L L') (k : v.oneCell' = true → Post C E L R K) : Post C E L R K := .fact tk (fun h r => rows_one (lst_rows r)) k
end
end Go.Sl
