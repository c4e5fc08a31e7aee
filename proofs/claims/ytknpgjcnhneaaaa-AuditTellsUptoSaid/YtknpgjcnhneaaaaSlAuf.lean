/- Walked code of the program, its pure functions and their contracts. -/
import Derived.Test.YtknpgjcnhneaaaaSlAue
set_option linter.unusedVariables false
set_option linter.unusedSimpArgs false
namespace Go.Sl
open Go.Proofs Go.Proofs.Try

noncomputable def mss_climb (a0 : ByteArray) (a1 : Int) (a2 : List (List UInt8)) : Option (ByteArray) :=
  Option.bind (loopR (fun (i3 : Nat) (e6 : List UInt8) (s4 : ByteArray × Int) => Option.bind (if (decide ((bandK .i64 s4.2 1) = 0)) = true then (Option.bind (mss_join s4.1 (⟨⟨e6⟩⟩ : ByteArray)) fun r26 => some r26) else (Option.bind (mss_join (⟨⟨e6⟩⟩ : ByteArray) s4.1) fun r28 => some r28)) fun (y22 : ByteArray) => some (.nx (y22, shrK .i64 s4.2 1))) 0 a2 (a0, a1)) fun o7 => Lo.on o7 fun (s4 : ByteArray × Int) => some s4.1
set_option maxRecDepth 20000 in
set_option maxHeartbeats 1000000 in
theorem S_mss_climb (a0 : ByteArray) (a1 : Int) (v02 : Value) (a2 : List (List UInt8)) (zl02 : List Value) (r : ByteArray) (h : mss_climb a0 a1 a2 = some r) :
    SpecF Try.prog 50 [.string a0, N a1, v02] [] [rows 1 v02 (List.zipWith (fun (_ : List UInt8) z => [z]) a2 zl02), gz (fun (x : List UInt8) z => rows 1 z (x.map (fun x => [B8 x]))) a2 zl02] (fun z : Unit => True) (fun z => .string r) (fun z M =>  M) (fun z M =>  M) := by
  refine .of func50 rfl ntmps50 rfl fun w0 D0 G0 => ?_
  unfold mss_climb at h
  refine .seq ?_
  refine .reg rfl ?_
  refine .op0 (OpP.toV (P.asg .k)) rfl ?_
  refine .nil ?_
  refine .then ?_
  refine .seq ?_
  refine .seq ?_
  refine .reg rfl ?_
  refine .opp (P.mov .t2) rfl ?_
  refine .gzl Mm.m1 fun hz1 => ?_
  refine .op (V.lnr (n := a2.length) .g0 Mm.m0 (zip_len hz1) runUnderlying94) rfl ?_
  refine .opp (P.mov .k) rfl ?_
  refine .nil ?_
  refine .then ?_
  refine .block ?_
  obtain ⟨o7, ho8, h⟩ := bnd_eq h
  refine .gzl Mm.m1 fun hz17 => ?_
  refine .lenq Mm.m0 fun hl14 => ?_
  rw [zip_len hz17] at hl14
  refine .loopR (γ := Unit) (fun i3 (s4 : ByteArray × Int) z5 => [(11, N (i3 : Int)), (10, N (a2.length : Int)), (9, v02), (0, .string s4.1), (1, N s4.2)]) (fun (s4 : ByteArray × Int) z5 => []) (fun (s4 : ByteArray × Int) z5 => [gz (fun (x : List UInt8) z => rows 1 z (x.map (fun x => [B8 x]))) a2 zl02, rows 1 v02 (List.zipWith (fun (_ : List UInt8) z => [z]) a2 zl02)]) () ho8 (.cons Mm.m0 (.cons Mm.m1 (.cons Mm.m2 (.cons Mm.m3 (.cons Mm.m4 .nil))))) (.of .nil) (.cons Mm.m1 (.cons Mm.m0 .nil)) (fun i3 s4 z5 hi15 hr11 => ?_)
  refine .seq ?_
  refine .reg rfl ?_
  refine .opp (P.bin (v := Bo (decide ((i3 : Int) < (a2.length : Nat)))) .g0 .g1 .lss) rfl ?_
  refine .nil ?_
  refine .then ?_
  refine .seq ?_
  refine .cond .t0 (fun c16 => ?_) (fun c16 => ?_)
  · obtain ⟨e6, hx13⟩ := get_of c16
    obtain ⟨ct12, hc9, hn10⟩ := loopR_at hx13 hr11
    refine .gzx (D := (fun (_ : List UInt8) z => [z])) (q := fun z_ => rows 1 z_ (e6.map (fun x => [B8 x]))) Mm.m0 hx13 (fun _ => rfl) fun u2 _ hx18 => ?_
    refine .skip ?_
    refine .then ?_
    refine .seq ?_
    refine .block ?_
    refine .seq ?_
    refine .reg rfl ?_
    refine .ixq Mm.m2 hx18 fun p19 q20 hq21 => ?_
    refine .opp (P.ixi (i := i3) .g0 rfl .g2 hq21 runUnderlying94 sizeOf40) rfl ?_
    refine .op (V.ldx0 (u := u2) .t0 hq21 Mm.m2 hx18 (.one isAgg40 rfl)) rfl ?_
    refine .opp (P.asg .t0) rfl ?_
    refine .nil ?_
    refine .then ?_
    obtain ⟨y22, hj24, hc9⟩ := bnd_eq hc9
    refine .cutx (γ := Unit) (E1 := fun z23 => [(0, .string y22), (11, N (i3 : Int)), (10, N (a2.length : Int)), (9, v02), (1, N s4.2)]) (L1 := fun z23 => []) (R1 := fun z23 => [gz (fun (x : List UInt8) z => rows 1 z (x.map (fun x => [B8 x]))) a2 zl02, rows 1 v02 (List.zipWith (fun (_ : List UInt8) z => [z]) a2 zl02)]) ?_ (fun z23 => ?_)
    · clear hc9
      refine .seq ?_
      refine .reg rfl ?_
      refine .opp (P.mov .g5) rfl ?_
      refine .opp (P.bin .t0 .k .and) rfl ?_
      refine .opp (P.bin .t0 .k .eql) rfl ?_
      refine .nil ?_
      refine .then ?_
      refine .cond .t0 (fun c25 => ?_) (fun c25 => ?_)
      · rw [if_pos c25] at hj24
        refine .reg rfl ?_
        refine .opp (P.mov .g4) rfl ?_
        refine .opp (P.mov .t1) rfl ?_
        refine .op (V.b2s (l := e6) (e := 5) .t0 Mm.m0 (by kernel_rfl) (by kernel_rfl) (by kernel_rfl)) rfl ?_
        obtain ⟨r26, hr27, hj24⟩ := bnd_eq hj24
        refine .opg (G.call call62 (.cons .t1 (.cons .t0 .nil)) (S_mss_join s4.1 (⟨⟨e6⟩⟩ : ByteArray) r26 hr27) .nil .nil (fun _ _ => rfl) (fun _ _ => rfl) rfl) rfl fun _ _ => ?_
        refine .drop .k4 ?_
        refine .opp (P.asg .t0) rfl ?_
        refine .nil ?_
        cases hj24
        exact .stj () (.cons Mm.m0 (.cons Mm.m1 (.cons Mm.m2 (.cons Mm.m3 (.cons Mm.m4 .nil))))) (.of .nil) (.cons Mm.m1 (.cons Mm.m2 .nil))
      · rw [if_neg (ne_true_of_eq_false c25)] at hj24
        refine .reg rfl ?_
        refine .opp (P.mov .t0) rfl ?_
        refine .op (V.b2s (l := e6) (e := 5) .t0 Mm.m0 (by kernel_rfl) (by kernel_rfl) (by kernel_rfl)) rfl ?_
        refine .opp (P.mov .g4) rfl ?_
        obtain ⟨r28, hr29, hj24⟩ := bnd_eq hj24
        refine .opg (G.call call62 (.cons .t1 (.cons .t0 .nil)) (S_mss_join (⟨⟨e6⟩⟩ : ByteArray) s4.1 r28 hr29) .nil .nil (fun _ _ => rfl) (fun _ _ => rfl) rfl) rfl fun _ _ => ?_
        refine .drop .k4 ?_
        refine .opp (P.asg .t0) rfl ?_
        refine .nil ?_
        cases hj24
        exact .stj () (.cons Mm.m0 (.cons Mm.m1 (.cons Mm.m2 (.cons Mm.m3 (.cons Mm.m4 .nil))))) (.of .nil) (.cons Mm.m1 (.cons Mm.m2 .nil))
    · clear hj24
      refine .reg rfl ?_
      refine .opp (P.mov .g4) rfl ?_
      refine .opp (P.bin .t0 .k (.shr (by decide))) rfl ?_
      refine .drop .k5 ?_
      refine .opp (P.asg .t0) rfl ?_
      refine .nil ?_
      refine .inn ?_
      refine .then ?_
      refine .reg rfl ?_
      refine .opp (P.bin .g2 .k (.addc (inc_ok (lt_of_get hx13) hl14))) rfl ?_
      refine .drop .k3 ?_
      refine .opp (P.mov .t0) rfl ?_
      refine .nil ?_
      cases hc9
      exact .rdR (y22, shrK .i64 s4.2 1) () hn10 (lt_of_get hx13) (.cons Mm.m0 (.cons Mm.m3 (.cons Mm.m4 (.cons Mm.m2 (.cons Mm.m1 .nil))))) (.of .nil) (.cons Mm.m0 (.cons Mm.m1 .nil))
  · obtain rfl := loopR_end (le_of_not c16) hr11
    have h := dn_on h
    refine .exit ?_
    refine .thx ?_
    refine .thx ?_
    refine .inb ?_
    refine .then ?_
    refine .seq ?_
    refine .reg rfl ?_
    refine .opp (P.mov .t3) rfl ?_
    refine .opp (P.asg .t0) rfl ?_
    refine .nil ?_
    refine .then ?_
    refine .ret ?_
    cases h
    exact .finw () (.r1 rfl (.tmp .g0)) trivial (Ls.of .nil) .nil
attribute [irreducible] mss_climb
noncomputable def mss_Verify (a0 : ByteArray) (a1 : List UInt8) (a2 : ByteArray) : Option (Int × Bool) :=
  Option.bind (mss_Leaf a2) fun r1 => thn (if (decide ((a2.size : Int) ≠ 145)) = true then true else (decide (r1 ≥ 8))) fun (y3 : Bool) => if y3 = true then (some (0, false)) else (grd (okS a2.size (some 1) none none) <| grd ((a2.extract (1 : Int).toNat a2.size).size ≤ 140737488355328) <| Option.bind (blob_Cut ((a2.extract (1 : Int).toNat a2.size).data.toList) 8) fun r11 => grd (okS r11.length none (some 15) none) <| Option.bind (loopR (fun (i22 : Nat) (e25 : List UInt8) (s23 : (List ByteArray)) => grd ((s23.length + ([(⟨⟨e25⟩⟩ : ByteArray)] : List ByteArray).length) * 16 ≤ 140737488355328) <| some (.nx ((s23 ++ ([(⟨⟨e25⟩⟩ : ByteArray)] : List ByteArray))))) 0 (slc r11 0 (15 : Int).toNat) ([])) fun o26 => Lo.on o26 fun (s23 : (List ByteArray)) => grd (okS r11.length (some 15) none none) <| Option.bind (ots_Open a1 s23) fun r50 => Option.bind (mss_climb r50 r1 (slc r11 (15 : Int).toNat r11.length)) fun r52 => if (decide (r52 ≠ a0)) = true then (some (0, false)) else (some (r1, true)))
set_option maxRecDepth 20000 in
set_option maxHeartbeats 1000000 in
theorem S_mss_Verify (a0 : ByteArray) (v01 : Value) (a1 : List UInt8) (a2 : ByteArray) (r : Int × Bool) (h : mss_Verify a0 a1 a2 = some r) :
    SpecF Try.prog 35 [.string a0, v01, .string a2] [] [rows 1 v01 (a1.map (fun x => [B8 x]))] (fun z : Unit => True) (fun z => Tu [N r.1, Bo r.2]) (fun z M =>  M) (fun z M =>  M) := by
  refine .of func35 rfl ntmps35 rfl fun w0 D0 G0 => ?_
  unfold mss_Verify at h
  refine .seq ?_
  refine .reg rfl ?_
  refine .op0 (OpP.toV (P.asg .k)) rfl ?_
  refine .op0 (OpP.toV (P.asg .k)) rfl ?_
  refine .nil ?_
  refine .then ?_
  refine .seq ?_
  refine .reg rfl ?_
  refine .opp (P.mov .g2) rfl ?_
  obtain ⟨r1, hr2, h⟩ := bnd_eq h
  refine .opg (G.call call48 (.cons .t0 .nil) (S_mss_Leaf a2 r1 hr2) .nil .nil (fun _ _ => rfl) (fun _ _ => rfl) rfl) rfl fun _ _ => ?_
  refine .opp (P.asg .t0) rfl ?_
  refine .nil ?_
  refine .then ?_
  refine .seq ?_
  obtain ⟨y3, hj5, h⟩ := thn_eq h
  refine .cutx (γ := Unit) (E1 := fun z4 => [(21, Bo y3), (8, N r1), (0, .string a0), (1, v01), (2, .string a2)]) (L1 := fun z4 => []) (R1 := fun z4 => [rows 1 v01 (a1.map (fun x => [B8 x]))]) ?_ (fun z4 => ?_)
  · clear h
    refine .reg rfl ?_
    refine .opp (P.mov .g3) rfl ?_
    refine .opp (P.lens .t0 runUnderlying9) rfl ?_
    refine .opp (P.bin .t0 .k .neq) rfl ?_
    refine .opp (P.mov .t0) rfl ?_
    refine .split .k0 (fun c6 => ?_) (fun c6 => ?_)
    · rw [if_pos c6] at hj5
      refine .gno rfl .g0 rfl rfl ?_
      refine .gno rfl .g0 rfl rfl ?_
      refine .opp (P.pickT .t0 .k) rfl ?_
      refine .nil ?_
      subst hj5
      exact .stj () (.cons Mm.m0 (.cons Mm.m1 (.cons Mm.m2 (.cons Mm.m3 (.cons Mm.m4 .nil))))) (.of .nil) (.cons Mm.m0 .nil)
    · rw [if_neg (ne_true_of_eq_false c6)] at hj5
      refine .gyes rfl .g0 ?_
      refine .opp (P.mov .g1) rfl ?_
      refine .gyes rfl .g1 ?_
      refine .opp (P.bin .t0 .k .geq) rfl ?_
      refine .opp (P.pickF .t1 .t0) rfl ?_
      refine .nil ?_
      subst hj5
      exact .stj () (.cons Mm.m0 (.cons Mm.m1 (.cons Mm.m2 (.cons Mm.m3 (.cons Mm.m4 .nil))))) (.of .nil) (.cons Mm.m0 .nil)
  · clear hj5
    refine .cond .t0 (fun c7 => ?_) (fun c7 => ?_)
    · rw [if_pos c7] at h
      refine .seq ?_
      refine .reg rfl ?_
      refine .opp (P.asg .k) rfl ?_
      refine .opp (P.asg .k) rfl ?_
      refine .nil ?_
      refine .then ?_
      refine .ret ?_
      refine .thr ?_
      cases h
      exact .finw () (.r2 rfl (.tmp .g1) (.tmp .g0)) trivial (Ls.of .nil) .nil
    · rw [if_neg (ne_true_of_eq_false c7)] at h
      refine .skip ?_
      refine .then ?_
      refine .seq ?_
      refine .reg rfl ?_
      refine .opp (P.mov .t3) rfl ?_
      obtain ⟨hb8, h⟩ := grd_eq h
      refine .opp (P.slst (li := (some 1)) (hj := none) .t0 (.some .k) .none runUnderlying9 hb8) rfl ?_
      obtain ⟨hb10, h⟩ := grd_eq h
      refine .opg (G.s2b (e := 5) .t0 (by kernel_rfl) (by kernel_rfl) (by kernel_rfl) hb10 rfl) rfl fun u9 _ => ?_
      obtain ⟨r11, hr12, h⟩ := bnd_eq h
      refine .opg (G.call call49 (.cons .t0 (.cons .k .nil)) (S_blob_Cut u9 ((a2.extract (1 : Int).toNat a2.size).data.toList) 8 r11 hr12) .nil (.cons Mm.m0 .nil) (fun _ _ => rfl) (fun _ _ => rfl) rfl) rfl fun ⟨u13, w14⟩ _ => ?_
      refine .opp (P.asg .t0) rfl ?_
      refine .nil ?_
      refine .then ?_
      refine .seq ?_
      refine .reg rfl ?_
      refine .opp (P.asg .k) rfl ?_
      refine .nil ?_
      refine .then ?_
      refine .seq ?_
      refine .seq ?_
      refine .reg rfl ?_
      refine .opp (P.mov .g1) rfl ?_
      refine .frz .k0 ?_
      refine .gzl Mm.m1 fun hz15 => ?_
      obtain ⟨hb16, h⟩ := grd_eq h
      refine .capq Mm.m0 fun hc18 => ?_
      refine .opg (G.slr (li := none) (hj := (some 15)) (mk := none) .t0 .none (.some .k) .none Mm.m0 hc18 runUnderlying94 sizeOf40 (by simpa [zip_len hz15] using hb16) rfl) rfl fun u17 hu19 => ?_
      refine .rhead (q := rows 1 u17 (List.zipWith (fun (_ : List UInt8) z => [z]) (slc r11 0 (15 : Int).toNat) (slc w14 0 (15 : Int).toNat))) (fun _ hh => by simpa [slc_zip, zip_len hz15] using hh) ?_
      refine .gzs 0 (15 : Int).toNat Mm.m2 ?_
      refine .gzl Mm.m0 fun hz20 => ?_
      refine .op (V.lnr (n := (slc r11 0 (15 : Int).toNat).length) .g0 Mm.m1 (zip_len hz20) runUnderlying94) rfl ?_
      refine .opp (P.mov .k) rfl ?_
      refine .nil ?_
      refine .then ?_
      refine .block ?_
      refine .lnil 9 1 ?_
      obtain ⟨o26, ho27, h⟩ := bnd_eq h
      refine .gzl Mm.m0 fun hz36 => ?_
      refine .lenq Mm.m1 fun hl33 => ?_
      rw [zip_len hz36] at hl33
      refine .loopR (γ := Value) (fun i22 (s23 : (List ByteArray)) z24 => [(29, N (i22 : Int)), (28, N ((slc r11 0 (15 : Int).toNat).length : Int)), (27, u17), (10, z24), (9, u13), (8, N r1), (0, .string a0), (1, v01)]) (fun (s23 : (List ByteArray)) z24 => [lst 9 1 z24 (s23.map (fun x => [.string x]))]) (fun (s23 : (List ByteArray)) z24 => [gz (fun (x : List UInt8) z => rows 1 z (x.map (fun x => [B8 x]))) (slc r11 0 (15 : Int).toNat) (slc w14 0 (15 : Int).toNat), rows 1 u17 (List.zipWith (fun (_ : List UInt8) z => [z]) (slc r11 0 (15 : Int).toNat) (slc w14 0 (15 : Int).toNat)), gz (fun (x : List UInt8) z => rows 1 z (x.map (fun x => [B8 x]))) r11 w14, rows 1 u13 (List.zipWith (fun (_ : List UInt8) z => [z]) r11 w14), rows 1 v01 (a1.map (fun x => [B8 x]))]) nilSl ho27 (.cons Mm.m0 (.cons Mm.m1 (.cons Mm.m2 (.cons Mm.m3 (.cons Mm.m4 (.cons Mm.m5 (.cons Mm.m6 (.cons Mm.m7 .nil)))))))) (.of (.cons .k0 .nil)) (.cons Mm.m0 (.cons Mm.m1 (.cons Mm.m3 (.cons Mm.m2 (.cons Mm.m5 .nil))))) (fun i22 s23 z24 hi34 hr30 => ?_)
      refine .seq ?_
      refine .reg rfl ?_
      refine .opp (P.bin (v := Bo (decide ((i22 : Int) < ((slc r11 0 (15 : Int).toNat).length : Nat)))) .g0 .g1 .lss) rfl ?_
      refine .nil ?_
      refine .then ?_
      refine .seq ?_
      refine .cond .t0 (fun c35 => ?_) (fun c35 => ?_)
      · obtain ⟨e25, hx32⟩ := get_of c35
        obtain ⟨ct31, hc28, hn29⟩ := loopR_at hx32 hr30
        refine .gzx (D := (fun (_ : List UInt8) z => [z])) (q := fun z_ => rows 1 z_ (e25.map (fun x => [B8 x]))) Mm.m0 hx32 (fun _ => rfl) fun u21 _ hx37 => ?_
        refine .skip ?_
        refine .then ?_
        refine .seq ?_
        refine .block ?_
        refine .seq ?_
        refine .reg rfl ?_
        refine .ixq Mm.m2 hx37 fun p38 q39 hq40 => ?_
        refine .opp (P.ixi (i := i22) .g0 rfl .g2 hq40 runUnderlying94 sizeOf40) rfl ?_
        refine .op (V.ldx0 (u := u21) .t0 hq40 Mm.m2 hx37 (.one isAgg40 rfl)) rfl ?_
        refine .opp (P.asg .t0) rfl ?_
        refine .nil ?_
        refine .then ?_
        refine .reg rfl ?_
        refine .opp (P.mov .g4) rfl ?_
        refine .opp (P.mov .t1) rfl ?_
        refine .op (V.b2s (l := e25) (e := 5) .t0 Mm.m0 (by kernel_rfl) (by kernel_rfl) (by kernel_rfl)) rfl ?_
        refine .opg (G.bsl (cs := [.string (⟨⟨e25⟩⟩ : ByteArray)]) .t0 runUnderlying47 sizeOf9 zeroValue9 rfl rfl rfl rfl rfl) rfl fun u41 _ => ?_
        obtain ⟨hb43, hc28⟩ := grd_eq hc28
        refine .opg (G.app (by_ := 16) .t1 .t0 .k1 (.inr (.inr ⟨_, Mm.m0⟩)) runUnderlying47 runUnderlying47 sizeOf9 typeInfo9 rfl rfl zeroValue9 rfl rfl (by simpa using hb43) rfl) rfl fun u42 _ => ?_
        refine .conseq .k0 (q := lst 9 1 u42 ((s23 ++ ([(⟨⟨e25⟩⟩ : ByteArray)] : List ByteArray)).map (fun x => [.string x]))) (fun _ hh => by simpa [List.map_append] using hh) ?_
        refine .drop .k4 ?_
        refine .opp (P.asg .t0) rfl ?_
        refine .nil ?_
        refine .inn ?_
        refine .then ?_
        refine .reg rfl ?_
        refine .opp (P.bin .g1 .k (.addc (inc_ok (lt_of_get hx32) hl33))) rfl ?_
        refine .drop .k2 ?_
        refine .opp (P.mov .t0) rfl ?_
        refine .nil ?_
        cases hc28
        exact .rdR ((s23 ++ ([(⟨⟨e25⟩⟩ : ByteArray)] : List ByteArray))) u42 hn29 (lt_of_get hx32) (.cons Mm.m0 (.cons Mm.m2 (.cons Mm.m3 (.cons Mm.m1 (.cons Mm.m4 (.cons Mm.m5 (.cons Mm.m6 (.cons Mm.m7 .nil)))))))) (.of (.cons .k0 .nil)) (.cons Mm.m1 (.cons Mm.m2 (.cons Mm.m3 (.cons Mm.m4 (.cons Mm.m5 .nil)))))
      · obtain rfl := loopR_end (le_of_not c35) hr30
        have h := dn_on h
        refine .exit ?_
        refine .thx ?_
        refine .thx ?_
        refine .inb ?_
        refine .then ?_
        refine .seq ?_
        refine .seq ?_
        refine .drawl [] [gz (fun (x : List UInt8) z => rows 1 z (x.map (fun x => [B8 x]))) (slc r11 0 (15 : Int).toNat) (slc w14 0 (15 : Int).toNat), rows 1 u17 (List.zipWith (fun (_ : List UInt8) z => [z]) (slc r11 0 (15 : Int).toNat) (slc w14 0 (15 : Int).toNat)), gz (fun (x : List UInt8) z => rows 1 z (x.map (fun x => [B8 x]))) r11 w14, rows 1 u13 (List.zipWith (fun (_ : List UInt8) z => [z]) r11 w14), rows 1 v01 (a1.map (fun x => [B8 x]))] (Ls.of .nil) (Rs.cons Mm.m0 (Rs.cons Mm.m1 (Rs.cons Mm.m2 (Rs.cons Mm.m3 (Rs.cons Mm.m4 Rs.nil))))) 9 (.on 0 .pu (.on 1 .pu (.on 3 .pu (.on 4 .pu (.on 5 .pu (.on 7 .pu (.on 2 .go (.on 6 .go (.on 8 .pu .nl))))))))) follows_mixed (.thn (.thn .body)) (by kernel_rfl) ?_
        refine .dpu rfl (.n rfl) (P.mov .t7) rfl rfl ?_
        refine .dpu rfl (.n rfl) (P.mov .t4) rfl rfl ?_
        refine .dpu rfl (.n rfl) (P.mov .g6) rfl rfl ?_
        refine .dpu rfl (.n rfl) (P.mov .t6) rfl rfl ?_
        refine .gzl Mm.m2 fun hz44 => ?_
        obtain ⟨hb45, h⟩ := grd_eq h
        refine .slnq Mm.m3 fun hq49 => ?_
        simp only [zip_len hz44] at hq49
        refine .dpu rfl (.n rfl) (P.slp (li := (some 15)) (hj := none) (mk := none) .t0 (.some .k) .none .none hq49 runUnderlying94 sizeOf40 (by simpa [zip_len hz44] using hb45)) rfl rfl ?_
        refine .slgen Mm.m3 (by simpa [zip_len hz44] using hb45) fun u46 => ?_
        refine .rhead (q := rows 1 u46 (List.zipWith (fun (_ : List UInt8) z => [z]) (slc r11 (15 : Int).toNat r11.length) (slc w14 (15 : Int).toNat r11.length))) (fun _ hh => by simpa [slc_zip, zip_len hz44] using hh) ?_
        refine .gzs (15 : Int).toNat r11.length Mm.m3 ?_
        refine .dpu rfl (.n rfl) (P.mov .t8) rfl rfl ?_
        refine .frz .k0 ?_
        obtain ⟨r50, hr51, h⟩ := bnd_eq h
        refine .dgo rfl (.n rfl) (G.call call51 (.cons .t4 (.cons .t3 .nil)) (S_ots_Open v01 a1 z24 s23 r50 hr51) .nil (.cons Mm.m7 (.cons Mm.m0 .nil)) (fun _ _ => rfl) (fun _ _ => rfl) rfl) (.inr fun _ _ _ h => (h.imp (Ls.of .nil)).ro (Rs.cons Mm.m3 (Rs.cons Mm.m4 (Rs.cons Mm.m5 (Rs.cons Mm.m6 (Rs.cons Mm.m7 Rs.nil)))))) fun _ _ => ?_
        obtain ⟨r52, hr53, h⟩ := bnd_eq h
        refine .dgo rfl (.n rfl) (G.call call50 (.cons .t0 (.cons .t2 (.cons .t1 .nil))) (S_mss_climb r50 r1 u46 (slc r11 (15 : Int).toNat r11.length) (slc w14 (15 : Int).toNat r11.length) r52 hr53) .nil (.cons Mm.m2 (.cons Mm.m1 .nil)) (fun _ _ => rfl) (fun _ _ => rfl) rfl) (.inr fun _ _ _ h => (h.imp (Ls.of .nil)).ro (Rs.cons Mm.m3 (Rs.cons Mm.m4 (Rs.cons Mm.m5 (Rs.cons Mm.m6 (Rs.cons Mm.m7 Rs.nil)))))) fun _ _ => ?_
        refine .dpu rfl (.n rfl) (P.bin .t0 .t0 .str_neq) rfl rfl ?_
        refine .dnil ?_
        refine .then ?_
        refine .cond .t0 (fun c54 => ?_) (fun c54 => ?_)
        · rw [if_pos c54] at h
          refine .seq ?_
          refine .reg rfl ?_
          refine .opp (P.asg .k) rfl ?_
          refine .opp (P.asg .k) rfl ?_
          refine .nil ?_
          refine .then ?_
          refine .ret ?_
          refine .thr ?_
          cases h
          exact .finw () (.r2 rfl (.tmp .g1) (.tmp .g0)) trivial (Ls.of .nil) .nil
        · rw [if_neg (ne_true_of_eq_false c54)] at h
          refine .skip ?_
          refine .then ?_
          refine .seq ?_
          refine .reg rfl ?_
          refine .opp (P.mov .t3) rfl ?_
          refine .opp (P.asg .t0) rfl ?_
          refine .opp (P.asg .k) rfl ?_
          refine .nil ?_
          refine .then ?_
          refine .ret ?_
          cases h
          exact .finw () (.r2 rfl (.tmp .g1) (.tmp .g0)) trivial (Ls.of .nil) .nil
attribute [irreducible] mss_Verify
noncomputable def audit_use (a0 : api_Event) (a1 : ByteArray) : Option (audit_Use × Bool) :=
  Option.bind (deal_Key a0.Tx.Inv) fun r4 => thn (if (decide (a0.Tx.Inv.Root ≠ a1)) = true then true else (if (decide ((IntKind.i64.wrap (a0.Tx.Kind - 4)) < 1)) = true then true else (decide ((IntKind.i64.wrap (a0.Tx.Kind - 4)) > 2)))) fun (y7 : Bool) => if y7 = true then (some (⟨0, 0, ⟨#[]⟩, ⟨0, 0, 0, 0⟩⟩, false)) else (Option.bind (deal_Payload (IntKind.i64.wrap (a0.Tx.Kind - 4)) r4 a0.Tx.Fee) fun r13 => Option.bind (mss_Verify a1 r13 a0.Tx.Sig) fun r16 => some ((⟨r16.1, IntKind.i64.wrap (a0.Tx.Kind - 4), r4, a0.Tx.Fee⟩, r16.2)))
set_option maxRecDepth 20000 in
set_option maxHeartbeats 1000000 in
theorem S_audit_use (a0 : api_Event) (a1 : ByteArray) (r : audit_Use × Bool) (h : audit_use a0 a1 = some r) :
    SpecF Try.prog 20 [Ag (api_Event.cs a0), .string a1] [] [] (fun z : Unit => True) (fun z => Tu [Ag (audit_Use.cs r.1), Bo r.2]) (fun z M =>  M) (fun z M =>  M) := by
  refine .of func20 rfl ntmps20 rfl fun w0 D0 G0 => ?_
  unfold audit_use at h
  refine .seq ?_
  refine .reg rfl ?_
  refine .opx (X.box (cs := (api_Event.cs a0)) .t0 rfl) rfl fun b1 => ?_
  refine .opx (X.alc (cs := (audit_Use.cs ⟨0, 0, ⟨#[]⟩, ⟨0, 0, 0, 0⟩⟩)) zeroValue43 rfl) rfl fun b2 => ?_
  refine .op0 (OpP.toV (P.asg .k)) rfl ?_
  refine .nil ?_
  refine .then ?_
  refine .seq ?_
  refine .reg rfl ?_
  refine .opp (P.fa .t1 fa_36_2 rfl) rfl ?_
  refine .op (V.ld (v := Ag (api_Tx.cs a0.Tx)) .t0 .k1 (.agg isAgg34 sizeOf34 rfl rfl)) rfl ?_
  refine .opx (X.alc (cs := (api_Tx.cs ⟨0, 0, 0, 0, ⟨0, 0, 0, 0⟩, ⟨0, ⟨#[]⟩, 0, 0, 0, 0, ⟨#[]⟩⟩, ⟨⟨0, 0, 0, 0⟩, 0⟩, ⟨0, 0, 0, 0⟩, ⟨#[]⟩⟩)) zeroValue34 rfl) rfl fun b3 => ?_
  refine .opg (G.str .t1 .g0 .k0 (.mk (cs' := (api_Tx.cs a0.Tx)) sizeOf34 rfl rfl rfl rfl)) rfl fun _ _ => ?_
  refine .nil ?_
  refine .then ?_
  refine .seq ?_
  obtain ⟨r4, hr5, h⟩ := bnd_eq h
  refine .dcut (γ := Nat) (φ := fun _ => True) (E1 := fun x_ => [(7, pt x_ 0), (6, pt b3 0), (4, pt b2 0), (1, .string a1)]) (L1 := fun x_ => [blk x_ 43 (audit_Use.cs ⟨0, IntKind.i64.wrap (a0.Tx.Kind - 4), r4, a0.Tx.Fee⟩), blk b3 34 (api_Tx.cs a0.Tx), blk b2 43 (audit_Use.cs ⟨0, 0, ⟨#[]⟩, ⟨0, 0, 0, 0⟩⟩), blk b1 36 (api_Event.cs a0)]) (R1 := fun x_ => []) ?_ (fun b6 _ => ?_)
  · refine .draw 11 (.on 0 .pu (.on 3 .pu (.on 6 .pu (.on 1 .ld (.on 2 .pu (.on 4 .ld (.on 7 .ld (.fk 5 9 (.on 8 .pu (.on 9 .go (.on 10 .go .nl))) (.on 5 .go (.on 8 .pu (.on 10 .go .nl))))))))))) follows_mixed (.thn (.thn .body)) (by kernel_rfl) ?_
    refine .dpu rfl (.n rfl) (P.fa .g0 fa_34_2 rfl) rfl rfl ?_
    refine .dpu rfl (.n rfl) (P.fa .g1 fa_34_5 rfl) rfl rfl ?_
    refine .dpu rfl (.n rfl) (P.fa .g2 fa_34_7 rfl) rfl rfl ?_
    refine .dld rfl (.n rfl) (V.ld (v := N a0.Tx.Kind) .t2 .k0 (.one isAgg3 rfl)) (fun _ h => h) rfl rfl ?_
    refine .dpu rfl (.n rfl) (P.bin .t0 .k .sub) rfl rfl ?_
    refine .dld rfl (.n rfl) (V.ld (v := Ag (api_Inv.cs a0.Tx.Inv)) .t2 .k0 (.agg isAgg30 sizeOf30 rfl rfl)) (fun _ h => h) rfl rfl ?_
    refine .dld rfl (.n rfl) (V.ld (v := Ag (api_Wide.cs a0.Tx.Fee)) .t2 .k0 (.agg isAgg28 sizeOf28 rfl rfl)) (fun _ h => h) rfl rfl ?_
    refine .dfk ?_ ?_
    · refine .dgo rfl (.n rfl) (G.call call34 (.cons .t1 .nil) (S_deal_Key a0.Tx.Inv r4 hr5) .nil .nil (fun _ _ => rfl) (fun _ _ => rfl) rfl) (.inr fun _ _ _ h => h) fun _ _ => ?_
      refine .dpu rfl (.n rfl) (P.bld (v := Ag (audit_Use.cs ⟨0, IntKind.i64.wrap (a0.Tx.Kind - 4), r4, a0.Tx.Fee⟩)) (.cons .t2 (.cons .t0 (.cons .t0 .nil))) (bld_run zeroValue43 runUnderlying43 pl_43 (by kernel_rfl))) rfl rfl ?_
      refine .dgo rfl (.n rfl) (OpX.g (X.alc (cs := (audit_Use.cs ⟨0, 0, ⟨#[]⟩, ⟨0, 0, 0, 0⟩⟩)) zeroValue43 rfl) rfl) (.inr fun _ _ _ h => (h.imp (Ls.of (.cons .k1 (.cons .k1 (.cons .k1 .nil))))).ro Rs.nil) fun b6 _ => ?_
      refine .dgo rfl (.n rfl) (G.str .t1 .g0 .k0 (.mk (cs' := (audit_Use.cs ⟨0, IntKind.i64.wrap (a0.Tx.Kind - 4), r4, a0.Tx.Fee⟩)) sizeOf43 rfl rfl rfl rfl)) (.inr fun _ _ _ h => (h.imp (Ls.of (.cons .k1 (.cons .k1 (.cons .k1 .nil))))).ro Rs.nil) fun _ _ => ?_
      refine .dnil ?_
      exact .dst b6 trivial (.cons Mm.m0 (.cons Mm.m1 (.cons Mm.m2 (.cons Mm.m3 .nil)))) (Ls.of (.cons .k0 (.cons .k0 (.cons .k0 (.cons .k0 .nil))))) .nil
    · refine .dgo rfl (.n rfl) (OpX.g (X.alc (cs := (audit_Use.cs ⟨0, 0, ⟨#[]⟩, ⟨0, 0, 0, 0⟩⟩)) zeroValue43 rfl) rfl) (.inr fun _ _ _ h => (h.imp (Ls.of (.cons .k1 (.cons .k1 (.cons .k1 .nil))))).ro Rs.nil) fun b6 _ => ?_
      refine .dgo rfl (.n rfl) (G.call call34 (.cons .t2 .nil) (S_deal_Key a0.Tx.Inv r4 hr5) .nil .nil (fun _ _ => rfl) (fun _ _ => rfl) rfl) (.inr fun _ _ _ h => (h.imp (Ls.of (.cons .k1 (.cons .k1 (.cons .k1 .nil))))).ro Rs.nil) fun _ _ => ?_
      refine .dpu rfl (.n rfl) (P.bld (v := Ag (audit_Use.cs ⟨0, IntKind.i64.wrap (a0.Tx.Kind - 4), r4, a0.Tx.Fee⟩)) (.cons .t3 (.cons .t0 (.cons .t1 .nil))) (bld_run zeroValue43 runUnderlying43 pl_43 (by kernel_rfl))) rfl rfl ?_
      refine .dgo rfl (.n rfl) (G.str .t0 .g0 .k0 (.mk (cs' := (audit_Use.cs ⟨0, IntKind.i64.wrap (a0.Tx.Kind - 4), r4, a0.Tx.Fee⟩)) sizeOf43 rfl rfl rfl rfl)) (.inr fun _ _ _ h => (h.imp (Ls.of (.cons .k1 (.cons .k1 (.cons .k1 .nil))))).ro Rs.nil) fun _ _ => ?_
      refine .dnil ?_
      exact .dst b6 trivial (.cons Mm.m0 (.cons Mm.m1 (.cons Mm.m2 (.cons Mm.m3 .nil)))) (Ls.of (.cons .k0 (.cons .k0 (.cons .k0 (.cons .k0 .nil))))) .nil
  · refine .then ?_
    refine .seq ?_
    obtain ⟨y7, hj9, h⟩ := thn_eq h
    refine .cutx (γ := Unit) (E1 := fun z8 => [(35, Bo y7), (7, pt b6 0), (6, pt b3 0), (4, pt b2 0), (1, .string a1)]) (L1 := fun z8 => [blk b6 43 (audit_Use.cs ⟨0, IntKind.i64.wrap (a0.Tx.Kind - 4), r4, a0.Tx.Fee⟩), blk b3 34 (api_Tx.cs a0.Tx), blk b2 43 (audit_Use.cs ⟨0, 0, ⟨#[]⟩, ⟨0, 0, 0, 0⟩⟩)]) (R1 := fun z8 => []) ?_ (fun z8 => ?_)
    · clear h
      refine .reg rfl ?_
      refine .opp (P.fa .g1 fa_34_5 rfl) rfl ?_
      refine .opp (P.fa .t0 fa_30_1 rfl) rfl ?_
      refine .op (V.ld (v := .string a0.Tx.Inv.Root) .t0 .k1 (.one isAgg9 rfl)) rfl ?_
      refine .opp (P.mov .g4) rfl ?_
      refine .opp (P.bin .t1 .t0 .str_neq) rfl ?_
      refine .opp (P.mov .t0) rfl ?_
      refine .split .k0 (fun c10 => ?_) (fun c10 => ?_)
      · rw [if_pos c10] at hj9
        refine .gno rfl .g0 rfl rfl ?_
        refine .gno rfl .g0 rfl rfl ?_
        refine .gno rfl .g0 rfl rfl ?_
        refine .opp (P.pickT .t0 .k) rfl ?_
        refine .opp (P.mov .t0) rfl ?_
        refine .gno rfl .g0 rfl rfl ?_
        refine .gno rfl .g0 rfl rfl ?_
        refine .gno rfl .g0 rfl rfl ?_
        refine .opp (P.pickT .t0 .k) rfl ?_
        refine .nil ?_
        subst hj9
        exact .stj () (.cons Mm.m0 (.cons Mm.m1 (.cons Mm.m2 (.cons Mm.m3 (.cons Mm.m4 .nil))))) (.of (.cons .k0 (.cons .k0 (.cons .k0 .nil)))) .nil
      · rw [if_neg (ne_true_of_eq_false c10)] at hj9
        refine .gyes rfl .g0 ?_
        refine .opp (P.fa .g1 fa_43_1 rfl) rfl ?_
        refine .gyes rfl .g1 ?_
        refine .op (V.ld (v := N (IntKind.i64.wrap (a0.Tx.Kind - 4))) .t0 .k0 (.one isAgg3 rfl)) rfl ?_
        refine .gyes rfl .g1 ?_
        refine .opp (P.bin .t0 .k .lss) rfl ?_
        refine .opp (P.pickF .t1 .t0) rfl ?_
        refine .opp (P.mov .t0) rfl ?_
        refine .split .k0 (fun c11 => ?_) (fun c11 => ?_)
        · rw [if_pos c11] at hj9
          refine .gno rfl .g0 rfl rfl ?_
          refine .gno rfl .g0 rfl rfl ?_
          refine .gno rfl .g0 rfl rfl ?_
          refine .opp (P.pickT .t0 .k) rfl ?_
          refine .nil ?_
          subst hj9
          exact .stj () (.cons Mm.m0 (.cons Mm.m1 (.cons Mm.m2 (.cons Mm.m3 (.cons Mm.m4 .nil))))) (.of (.cons .k0 (.cons .k0 (.cons .k0 .nil)))) .nil
        · rw [if_neg (ne_true_of_eq_false c11)] at hj9
          refine .gyes rfl .g0 ?_
          refine .opp (P.fa .g1 fa_43_1 rfl) rfl ?_
          refine .gyes rfl .g1 ?_
          refine .op (V.ld (v := N (IntKind.i64.wrap (a0.Tx.Kind - 4))) .t0 .k0 (.one isAgg3 rfl)) rfl ?_
          refine .gyes rfl .g1 ?_
          refine .opp (P.bin .t0 .k .gtr) rfl ?_
          refine .opp (P.pickF .t1 .t0) rfl ?_
          refine .nil ?_
          subst hj9
          exact .stj () (.cons Mm.m0 (.cons Mm.m1 (.cons Mm.m2 (.cons Mm.m3 (.cons Mm.m4 .nil))))) (.of (.cons .k0 (.cons .k0 (.cons .k0 .nil)))) .nil
    · clear hj9
      refine .cond .t0 (fun c12 => ?_) (fun c12 => ?_)
      · rw [if_pos c12] at h
        refine .seq ?_
        refine .reg rfl ?_
        refine .opp (P.bld (v := Ag (audit_Use.cs ⟨0, 0, ⟨#[]⟩, ⟨0, 0, 0, 0⟩⟩)) .nil (bld_run zeroValue43 runUnderlying43 pl_43 (by kernel_rfl))) rfl ?_
        refine .opg (G.str .t0 .g2 .k2 (.mk (cs' := (audit_Use.cs ⟨0, 0, ⟨#[]⟩, ⟨0, 0, 0, 0⟩⟩)) sizeOf43 rfl rfl rfl rfl)) rfl fun _ _ => ?_
        refine .opp (P.asg .k) rfl ?_
        refine .nil ?_
        refine .then ?_
        refine .ret ?_
        refine .thr ?_
        cases h
        exact .finw () (.r2 rfl (.cell .g3 .k0 (.agg isAgg43 sizeOf43 rfl rfl)) (.tmp .g0)) trivial (Ls.of .nil) .nil
      · rw [if_neg (ne_true_of_eq_false c12)] at h
        refine .skip ?_
        refine .then ?_
        refine .seq ?_
        refine .draw 16 (.on 0 .pu (.on 1 .pu (.on 3 .pu (.on 5 .pu (.on 8 .pu (.on 2 .ld (.on 4 .ld (.on 6 .ld (.on 9 .ld (.on 7 .go (.on 10 .go (.on 11 .pu (.on 12 .pu (.on 13 .pu (.on 14 .go (.on 15 .go .nl)))))))))))))))) follows_mixed (.thn .body) (by kernel_rfl) ?_
        refine .dpu rfl (.n rfl) (P.mov .t3) rfl rfl ?_
        refine .dpu rfl (.n rfl) (P.fa .g1 fa_43_1 rfl) rfl rfl ?_
        refine .dpu rfl (.n rfl) (P.fa .g2 fa_43_2 rfl) rfl rfl ?_
        refine .dpu rfl (.n rfl) (P.fa .g3 fa_43_3 rfl) rfl rfl ?_
        refine .dpu rfl (.n rfl) (P.fa .t5 fa_34_8 rfl) rfl rfl ?_
        refine .dld rfl (.n rfl) (V.ld (v := N (IntKind.i64.wrap (a0.Tx.Kind - 4))) .t3 .k0 (.one isAgg3 rfl)) (fun _ h => h) rfl rfl ?_
        refine .dld rfl (.n rfl) (V.ld (v := .string r4) .t3 .k0 (.one isAgg9 rfl)) (fun _ h => h) rfl rfl ?_
        refine .dld rfl (.n rfl) (V.ld (v := Ag (api_Wide.cs a0.Tx.Fee)) .t3 .k0 (.agg isAgg28 sizeOf28 rfl rfl)) (fun _ h => h) rfl rfl ?_
        refine .dld rfl (.n rfl) (V.ld (v := .string a0.Tx.Sig) .t3 .k1 (.one isAgg9 rfl)) (fun _ h => h) rfl rfl ?_
        obtain ⟨r13, hr14, h⟩ := bnd_eq h
        refine .dgo rfl (.n rfl) (G.call call36 (.cons .t3 (.cons .t2 (.cons .t1 .nil))) (S_deal_Payload (IntKind.i64.wrap (a0.Tx.Kind - 4)) r4 a0.Tx.Fee r13 hr14) .nil .nil (fun _ _ => rfl) (fun _ _ => rfl) rfl) (.inr fun _ _ _ h => (h.imp (Ls.of (.cons .k1 (.cons .k1 (.cons .k1 .nil))))).ro Rs.nil) fun u15 _ => ?_
        refine .frz .k0 ?_
        obtain ⟨r16, hr17, h⟩ := bnd_eq h
        refine .dgo rfl (.n rfl) (G.call call35 (.cons .t2 (.cons .t0 (.cons .t0 .nil))) (S_mss_Verify a1 u15 r13 a0.Tx.Sig r16 hr17) .nil (.cons Mm.m0 .nil) (fun _ _ => rfl) (fun _ _ => rfl) rfl) (.inr fun _ _ _ h => (h.imp (Ls.of (.cons .k0 (.cons .k0 (.cons .k0 .nil))))).ro Rs.nil) fun _ _ => ?_
        refine .dpu rfl (.n rfl) (P.mov .t0) rfl rfl ?_
        refine .dpu rfl (.n rfl) (P.ext (v := N r16.1) .g0 rfl) rfl rfl ?_
        refine .dpu rfl (.n rfl) (P.ext (v := Bo r16.2) .t1 rfl) rfl rfl ?_
        refine .dgo rfl (.n rfl) (OpV.g (OpP.toV (P.asg .t1)) rfl) (.inr fun _ _ _ h => (h.imp (Ls.of (.cons .k0 (.cons .k0 (.cons .k0 .nil))))).ro Rs.nil) fun _ _ => ?_
        refine .dgo rfl (.n rfl) (OpV.g (OpP.toV (P.asg .t1)) rfl) (.inr fun _ _ _ h => (h.imp (Ls.of (.cons .k0 (.cons .k0 (.cons .k0 .nil))))).ro Rs.nil) fun _ _ => ?_
        refine .dnil ?_
        refine .then ?_
        refine .seq ?_
        refine .reg rfl ?_
        refine .opp (P.mov .t1) rfl ?_
        refine .opp (P.fa .g2 fa_43_0 rfl) rfl ?_
        refine .opg (G.str .t1 .t0 .k0 (.mk (cs' := (audit_Use.cs ⟨r16.1, IntKind.i64.wrap (a0.Tx.Kind - 4), r4, a0.Tx.Fee⟩)) sizeOf3 rfl rfl rfl rfl)) rfl fun _ _ => ?_
        refine .nil ?_
        refine .then ?_
        refine .seq ?_
        refine .reg rfl ?_
        refine .op (V.ld (v := Ag (audit_Use.cs ⟨r16.1, IntKind.i64.wrap (a0.Tx.Kind - 4), r4, a0.Tx.Fee⟩)) .t1 .k0 (.agg isAgg43 sizeOf43 rfl rfl)) rfl ?_
        refine .opp (P.mov .t1) rfl ?_
        refine .opg (G.str .t1 .g1 .k2 (.mk (cs' := (audit_Use.cs ⟨r16.1, IntKind.i64.wrap (a0.Tx.Kind - 4), r4, a0.Tx.Fee⟩)) sizeOf43 rfl rfl rfl rfl)) rfl fun _ _ => ?_
        refine .opp (P.asg .t0) rfl ?_
        refine .nil ?_
        refine .then ?_
        refine .ret ?_
        cases h
        exact .finw () (.r2 rfl (.cell .g1 .k0 (.agg isAgg43 sizeOf43 rfl rfl)) (.tmp .g0)) trivial (Ls.of .nil) .nil
attribute [irreducible] audit_use
noncomputable def slices_Index_audit_Use (a0 : List audit_Use) (a1 : audit_Use) : Option (Int) :=
  Option.bind (loopR (fun (i2 : Nat) (e5 : audit_Use) (s3 : Unit) => if (decide ((a1 : audit_Use) = (e5 : audit_Use))) = true then (Option.map Ct.rt (some (i2 : Int))) else (some (.nx ()))) 0 a0 ()) fun o6 => Lo.on o6 fun (s3 : Unit) => some (-1)
set_option maxRecDepth 20000 in
set_option maxHeartbeats 1000000 in
theorem S_slices_Index_audit_Use (v00 : Value) (a0 : List audit_Use) (a1 : audit_Use) (r : Int) (h : slices_Index_audit_Use a0 a1 = some r) :
    SpecF Try.prog 37 [v00, Ag (audit_Use.cs a1)] [] [rows 7 v00 (a0.map audit_Use.cs)] (fun z : Unit => True) (fun z => N r) (fun z M =>  M) (fun z M =>  M) := by
  refine .of func37 rfl ntmps37 rfl fun w0 D0 G0 => ?_
  unfold slices_Index_audit_Use at h
  refine .seq ?_
  refine .reg rfl ?_
  refine .opx (X.box (cs := (audit_Use.cs a1)) .t1 rfl) rfl fun b1 => ?_
  refine .op0 (OpP.toV (P.asg .k)) rfl ?_
  refine .nil ?_
  refine .then ?_
  refine .seq ?_
  refine .seq ?_
  refine .reg rfl ?_
  refine .opp (P.mov .g1) rfl ?_
  refine .op (V.lnr (n := a0.length) .t0 Mm.m0 map_len runUnderlying24) rfl ?_
  refine .opp (P.mov .k) rfl ?_
  refine .nil ?_
  refine .then ?_
  refine .block ?_
  obtain ⟨o6, ho7, h⟩ := bnd_eq h
  refine .lenq Mm.m0 fun hl13 => ?_
  rw [map_len] at hl13
  refine .loopR (γ := Unit) (fun i2 (s3 : Unit) z4 => [(8, N (i2 : Int)), (7, N (a0.length : Int)), (3, pt b1 0), (0, v00)]) (fun (s3 : Unit) z4 => [blk b1 43 (audit_Use.cs a1)]) (fun (s3 : Unit) z4 => [rows 7 v00 (a0.map audit_Use.cs)]) () ho7 (.cons Mm.m0 (.cons Mm.m1 (.cons Mm.m2 (.cons Mm.m3 .nil)))) (.of (.cons .k0 .nil)) (.cons Mm.m0 .nil) (fun i2 s3 z4 hi14 hr10 => ?_)
  refine .seq ?_
  refine .reg rfl ?_
  refine .opp (P.bin (v := Bo (decide ((i2 : Int) < (a0.length : Nat)))) .g0 .g1 .lss) rfl ?_
  refine .nil ?_
  refine .then ?_
  refine .seq ?_
  refine .cond .t0 (fun c15 => ?_) (fun c15 => ?_)
  · obtain ⟨e5, hx12⟩ := get_of c15
    obtain ⟨ct11, hc8, hn9⟩ := loopR_at hx12 hr10
    refine .skip ?_
    refine .then ?_
    refine .seq ?_
    refine .block ?_
    refine .seq ?_
    refine .reg rfl ?_
    refine .opp (P.mov .g0) rfl ?_
    refine .opp (P.asg .t0) rfl ?_
    refine .nil ?_
    refine .then ?_
    refine .seq ?_
    refine .draw 6 (.on 1 .pu (.on 2 .pu (.on 3 .pu (.on 0 .ld (.on 4 .ld (.on 5 .pu .nl)))))) follows_mixed (.thn (.inb (.thn (.thn (.inb (.thn .body)))))) (by kernel_rfl) ?_
    refine .dpu rfl (.n rfl) (P.mov .g4) rfl rfl ?_
    refine .dpu rfl (.n rfl) (P.mov .g1) rfl rfl ?_
    refine .ixq Mm.m0 (map_get hx12) fun p16 q17 hq18 => ?_
    refine .dpu rfl (.n rfl) (P.ixi (i := i2) .t0 rfl .t0 hq18 runUnderlying24 sizeOf43) rfl rfl ?_
    refine .dld rfl (.n rfl) (V.ld (v := Ag (audit_Use.cs a1)) .g4 .k0 (.agg isAgg43 sizeOf43 rfl rfl)) (fun _ h => h) rfl rfl ?_
    refine .dld rfl (.n rfl) (V.ldx0 (u := Ag (audit_Use.cs e5)) .t1 hq18 Mm.m0 (map_get hx12) (.agg isAgg43 sizeOf43 rfl rfl)) (fun _ h => h) rfl rfl ?_
    refine .dpu rfl (.n rfl) (P.bin .t1 .t0 (eq_43_eql _ _)) rfl rfl ?_
    refine .dnil ?_
    refine .then ?_
    refine .cond .t0 (fun c19 => ?_) (fun c19 => ?_)
    · rw [if_pos c19] at hc8
      refine .seq ?_
      refine .reg rfl ?_
      refine .opp (P.mov .t0) rfl ?_
      refine .opp (P.asg .t0) rfl ?_
      refine .nil ?_
      refine .then ?_
      refine .ret ?_
      refine .inr ?_
      refine .thr ?_
      obtain ⟨x20, hx21, rfl⟩ := map_rt hc8
      obtain rfl := hn9
      obtain rfl := rt_on h
      refine .thr ?_
      refine .inr ?_
      refine .thr ?_
      cases hx21
      exact .finw () (.r1 rfl (.tmp .g0)) trivial (Ls.of .nil) .nil
    · rw [if_neg (ne_true_of_eq_false c19)] at hc8
      refine .skip ?_
      refine .inn ?_
      refine .then ?_
      refine .reg rfl ?_
      refine .opp (P.bin .g1 .k (.addc (inc_ok (lt_of_get hx12) hl13))) rfl ?_
      refine .drop .k2 ?_
      refine .opp (P.mov .t0) rfl ?_
      refine .nil ?_
      cases hc8
      exact .rdR () () hn9 (lt_of_get hx12) (.cons Mm.m0 (.cons Mm.m2 (.cons Mm.m3 (.cons Mm.m4 .nil)))) (.of (.cons .k0 .nil)) (.cons Mm.m0 .nil)
  · obtain rfl := loopR_end (le_of_not c15) hr10
    have h := dn_on h
    refine .exit ?_
    refine .thx ?_
    refine .thx ?_
    refine .inb ?_
    refine .then ?_
    refine .seq ?_
    refine .reg rfl ?_
    refine .opp (P.asg .k) rfl ?_
    refine .nil ?_
    refine .then ?_
    refine .ret ?_
    cases h
    exact .finw () (.r1 rfl (.tmp .g0)) trivial (Ls.of .nil) .nil
attribute [irreducible] slices_Index_audit_Use
noncomputable def slices_Contains_audit_Use (a0 : List audit_Use) (a1 : audit_Use) : Option (Bool) :=
  Option.bind (slices_Index_audit_Use a0 a1) fun r2 => some (decide (r2 ≥ 0))
set_option maxRecDepth 20000 in
set_option maxHeartbeats 1000000 in
theorem S_slices_Contains_audit_Use (v00 : Value) (a0 : List audit_Use) (a1 : audit_Use) (r : Bool) (h : slices_Contains_audit_Use a0 a1 = some r) :
    SpecF Try.prog 21 [v00, Ag (audit_Use.cs a1)] [] [rows 7 v00 (a0.map audit_Use.cs)] (fun z : Unit => True) (fun z => Bo r) (fun z M =>  M) (fun z M =>  M) := by
  refine .of func21 rfl ntmps21 rfl fun w0 D0 G0 => ?_
  unfold slices_Contains_audit_Use at h
  refine .seq ?_
  refine .reg rfl ?_
  refine .opx (X.box (cs := (audit_Use.cs a1)) .t1 rfl) rfl fun b1 => ?_
  refine .op0 (OpP.toV (P.asg .k)) rfl ?_
  refine .nil ?_
  refine .then ?_
  refine .seq ?_
  refine .reg rfl ?_
  refine .opp (P.mov .t1) rfl ?_
  refine .op (V.ld (v := Ag (audit_Use.cs a1)) .t1 .k0 (.agg isAgg43 sizeOf43 rfl rfl)) rfl ?_
  obtain ⟨r2, hr3, h⟩ := bnd_eq h
  refine .opg (G.call call37 (.cons .t1 (.cons .t0 .nil)) (S_slices_Index_audit_Use v00 a0 a1 r2 hr3) .nil (.cons Mm.m0 .nil) (fun _ _ => rfl) (fun _ _ => rfl) rfl) rfl fun _ _ => ?_
  refine .opp (P.bin .t0 .k .geq) rfl ?_
  refine .opp (P.asg .t0) rfl ?_
  refine .nil ?_
  refine .then ?_
  refine .ret ?_
  cases h
  exact .finw () (.r1 rfl (.tmp .g0)) trivial (Ls.of .nil) .nil
attribute [irreducible] slices_Contains_audit_Use
noncomputable def audit_Of (a0 : List api_Event) (a1 : ByteArray) : Option ((List audit_Use)) :=
  Option.bind (loopR (fun (i1 : Nat) (e4 : api_Event) (s2 : (List audit_Use)) => Option.bind (Option.bind (audit_use e4 a1) fun r22 => Option.bind (if r22.2 = true then (Option.bind (slices_Contains_audit_Use s2 r22.1) fun r29 => some (!r29)) else (some false)) fun (y25 : Bool) => if y25 = true then (grd ((s2.length + ([r22.1] : List audit_Use).length) * 64 ≤ 140737488355328) <| some ((s2 ++ ([r22.1] : List audit_Use)))) else (some s2)) fun (y15 : (List audit_Use)) => some (.nx y15)) 0 a0 ([])) fun o5 => Lo.on o5 fun (s2 : (List audit_Use)) => some s2
set_option maxRecDepth 20000 in
set_option maxHeartbeats 1000000 in
theorem S_audit_Of (v00 : Value) (a0 : List api_Event) (a1 : ByteArray) (r : (List audit_Use)) (h : audit_Of a0 a1 = some r) :
    SpecF Try.prog 8 [v00, .string a1] [] [rows 27 v00 (a0.map api_Event.cs)] (fun z : Value => True) (fun z => z) (fun z M => lst 43 7 z (r.map audit_Use.cs) ::  M) (fun z M =>  M) := by
  refine .of func8 rfl ntmps8 rfl fun w0 D0 G0 => ?_
  unfold audit_Of at h
  refine .seq ?_
  refine .reg rfl ?_
  refine .op0 (OpP.toV (P.asg .k)) rfl ?_
  refine .nil ?_
  refine .then ?_
  refine .seq ?_
  refine .reg rfl ?_
  refine .opp (P.asg .k) rfl ?_
  refine .nil ?_
  refine .then ?_
  refine .seq ?_
  refine .seq ?_
  refine .reg rfl ?_
  refine .opp (P.mov .t1) rfl ?_
  refine .op (V.lnr (n := a0.length) .g0 Mm.m0 map_len runUnderlying22) rfl ?_
  refine .opp (P.mov .k) rfl ?_
  refine .nil ?_
  refine .then ?_
  refine .block ?_
  refine .lnil 43 7 ?_
  obtain ⟨o5, ho6, h⟩ := bnd_eq h
  refine .lenq Mm.m0 fun hl12 => ?_
  rw [map_len] at hl12
  refine .loopR (γ := Value) (fun i1 (s2 : (List audit_Use)) z3 => [(12, N (i1 : Int)), (11, N (a0.length : Int)), (10, v00), (5, z3), (1, .string a1)]) (fun (s2 : (List audit_Use)) z3 => [lst 43 7 z3 (s2.map audit_Use.cs)]) (fun (s2 : (List audit_Use)) z3 => [rows 27 v00 (a0.map api_Event.cs)]) nilSl ho6 (.cons Mm.m0 (.cons Mm.m1 (.cons Mm.m2 (.cons Mm.m3 (.cons Mm.m4 .nil))))) (.of (.cons .k0 .nil)) (.cons Mm.m0 .nil) (fun i1 s2 z3 hi13 hr9 => ?_)
  refine .seq ?_
  refine .reg rfl ?_
  refine .opp (P.bin (v := Bo (decide ((i1 : Int) < (a0.length : Nat)))) .g0 .g1 .lss) rfl ?_
  refine .nil ?_
  refine .then ?_
  refine .seq ?_
  refine .cond .t0 (fun c14 => ?_) (fun c14 => ?_)
  · obtain ⟨e4, hx11⟩ := get_of c14
    obtain ⟨ct10, hc7, hn8⟩ := loopR_at hx11 hr9
    refine .skip ?_
    refine .then ?_
    obtain ⟨y15, hj17, hc7⟩ := bnd_eq hc7
    refine .cutx (γ := Value) (E1 := fun z16 => [(5, z16), (12, N (i1 : Int)), (11, N (a0.length : Int)), (10, v00), (1, .string a1)]) (L1 := fun z16 => [lst 43 7 z16 (y15.map audit_Use.cs)]) (R1 := fun z16 => [rows 27 v00 (a0.map api_Event.cs)]) ?_ (fun z16 => ?_)
    · clear hc7
      refine .block ?_
      refine .seq ?_
      refine .reg rfl ?_
      refine .ixq Mm.m0 (map_get hx11) fun p18 q19 hq20 => ?_
      refine .opp (P.ixi (i := i1) .g0 rfl .g2 hq20 runUnderlying22 sizeOf36) rfl ?_
      refine .op (V.ldx0 (u := Ag (api_Event.cs e4)) .t0 hq20 Mm.m0 (map_get hx11) (.agg isAgg36 sizeOf36 rfl rfl)) rfl ?_
      refine .opx (X.alc (cs := (api_Event.cs ⟨0, 0, ⟨0, 0, 0, 0, ⟨0, 0, 0, 0⟩, ⟨0, ⟨#[]⟩, 0, 0, 0, 0, ⟨#[]⟩⟩, ⟨⟨0, 0, 0, 0⟩, 0⟩, ⟨0, 0, 0, 0⟩, ⟨#[]⟩⟩⟩)) zeroValue36 rfl) rfl fun b21 => ?_
      refine .opg (G.str .t1 .g0 .k0 (.mk (cs' := (api_Event.cs e4)) sizeOf36 rfl rfl rfl rfl)) rfl fun _ _ => ?_
      refine .nil ?_
      refine .then ?_
      refine .seq ?_
      refine .reg rfl ?_
      refine .op (V.ld (v := Ag (api_Event.cs e4)) .t0 .k0 (.agg isAgg36 sizeOf36 rfl rfl)) rfl ?_
      refine .opp (P.mov .g5) rfl ?_
      obtain ⟨r22, hr23, hj17⟩ := bnd_eq hj17
      refine .opg (G.call call20 (.cons .t1 (.cons .t0 .nil)) (S_audit_use e4 a1 r22 hr23) .nil .nil (fun _ _ => rfl) (fun _ _ => rfl) rfl) rfl fun _ _ => ?_
      refine .opp (P.mov .t0) rfl ?_
      refine .opp (P.ext (v := Ag (audit_Use.cs r22.1)) .g0 rfl) rfl ?_
      refine .opp (P.ext (v := Bo r22.2) .t1 rfl) rfl ?_
      refine .opx (X.alc (cs := (audit_Use.cs ⟨0, 0, ⟨#[]⟩, ⟨0, 0, 0, 0⟩⟩)) zeroValue43 rfl) rfl fun b24 => ?_
      refine .opg (G.str .t2 .g0 .k0 (.mk (cs' := (audit_Use.cs r22.1)) sizeOf43 rfl rfl rfl rfl)) rfl fun _ _ => ?_
      refine .opp (P.asg .t1) rfl ?_
      refine .nil ?_
      refine .then ?_
      obtain ⟨y25, hj27, hj17⟩ := bnd_eq hj17
      refine .cutx (γ := Unit) (E1 := fun z26 => [(28, Bo y25), (8, pt b24 0), (12, N (i1 : Int)), (11, N (a0.length : Int)), (10, v00), (5, z3), (1, .string a1)]) (L1 := fun z26 => [blk b24 43 (audit_Use.cs r22.1), lst 43 7 z3 (s2.map audit_Use.cs)]) (R1 := fun z26 => [rows 27 v00 (a0.map api_Event.cs)]) ?_ (fun z26 => ?_)
      · clear hj17
        refine .reg rfl ?_
        refine .opp (P.mov .t0) rfl ?_
        refine .opp (P.mov .t0) rfl ?_
        refine .split .k0 (fun c28 => ?_) (fun c28 => ?_)
        · rw [if_pos c28] at hj27
          refine .gyes rfl .g0 ?_
          refine .opp (P.mov .g5) rfl ?_
          refine .gyes rfl .g1 ?_
          refine .op (V.ld (v := Ag (audit_Use.cs r22.1)) .g2 .k0 (.agg isAgg43 sizeOf43 rfl rfl)) rfl ?_
          refine .gyes rfl .g2 ?_
          obtain ⟨r29, hr30, hj27⟩ := bnd_eq hj27
          refine .opg (G.calll call21 (.cons .t1 (.cons .t0 .nil)) (S_slices_Contains_audit_Use z3 s2 r22.1 r29 hr30) .nil (.imp (List.mem_append_right _ Mm.m2) (fun _ => lst_rows) .nil) (fun _ _ => rfl) rfl) rfl fun _ _ => ?_
          refine .gyes rfl .g1 ?_
          refine .opp (P.not .t0) rfl ?_
          refine .opp (P.pickT .t1 .t0) rfl ?_
          refine .nil ?_
          cases hj27
          exact .stj () (.cons Mm.m0 (.cons Mm.m1 (.cons Mm.m2 (.cons Mm.m3 (.cons Mm.m4 (.cons Mm.m5 (.cons Mm.m6 .nil))))))) (.of (.cons .k0 (.cons .k1 .nil))) (.cons Mm.m0 .nil)
        · rw [if_neg (ne_true_of_eq_false c28)] at hj27
          refine .gno rfl .g0 rfl rfl ?_
          refine .gno rfl .g0 rfl rfl ?_
          refine .gno rfl .g0 rfl rfl ?_
          refine .gno rfl .g0 rfl rfl ?_
          refine .opp (P.pickF .t0 .k) rfl ?_
          refine .nil ?_
          cases hj27
          exact .stj () (.cons Mm.m0 (.cons Mm.m1 (.cons Mm.m2 (.cons Mm.m3 (.cons Mm.m4 (.cons Mm.m5 (.cons Mm.m6 .nil))))))) (.of (.cons .k0 (.cons .k1 .nil))) (.cons Mm.m0 .nil)
      · clear hj27
        refine .cond .t0 (fun c31 => ?_) (fun c31 => ?_)
        · rw [if_pos c31] at hj17
          refine .reg rfl ?_
          refine .opp (P.mov .g4) rfl ?_
          refine .op (V.ld (v := Ag (audit_Use.cs r22.1)) .t1 .k0 (.agg isAgg43 sizeOf43 rfl rfl)) rfl ?_
          refine .opg (G.bsl (cs := (audit_Use.cs r22.1)) .t0 runUnderlying24 sizeOf43 zeroValue43 rfl rfl rfl rfl rfl) rfl fun u32 _ => ?_
          obtain ⟨hb34, hj17⟩ := grd_eq hj17
          refine .opg (G.app (by_ := 64) .t1 .t0 .k2 (.inr (.inr ⟨_, Mm.m0⟩)) runUnderlying24 runUnderlying24 sizeOf43 typeInfo43 rfl rfl zeroValue43 rfl rfl (by simpa using hb34) rfl) rfl fun u33 _ => ?_
          refine .conseq .k0 (q := lst 43 7 u33 ((s2 ++ ([r22.1] : List audit_Use)).map audit_Use.cs)) (fun _ hh => by simpa [List.map_append] using hh) ?_
          refine .drop .k4 ?_
          refine .opp (P.asg .t0) rfl ?_
          refine .nil ?_
          refine .inn ?_
          cases hj17
          exact .stj u33 (.cons Mm.m0 (.cons Mm.m1 (.cons Mm.m2 (.cons Mm.m3 (.cons Mm.m4 .nil))))) (.of (.cons .k0 .nil)) (.cons Mm.m0 .nil)
        · rw [if_neg (ne_true_of_eq_false c31)] at hj17
          refine .skip ?_
          refine .inn ?_
          cases hj17
          exact .stj z3 (.cons Mm.m4 (.cons Mm.m1 (.cons Mm.m2 (.cons Mm.m3 (.cons Mm.m5 .nil))))) (.of (.cons .k1 .nil)) (.cons Mm.m0 .nil)
    · clear hj17
      refine .reg rfl ?_
      refine .opp (P.bin .g1 .k (.addc (inc_ok (lt_of_get hx11) hl12))) rfl ?_
      refine .drop .k2 ?_
      refine .opp (P.mov .t0) rfl ?_
      refine .nil ?_
      cases hc7
      exact .rdR y15 z16 hn8 (lt_of_get hx11) (.cons Mm.m0 (.cons Mm.m2 (.cons Mm.m3 (.cons Mm.m1 (.cons Mm.m4 .nil))))) (.of (.cons .k0 .nil)) (.cons Mm.m0 .nil)
  · obtain rfl := loopR_end (le_of_not c14) hr9
    have h := dn_on h
    refine .exit ?_
    refine .thx ?_
    refine .thx ?_
    refine .inb ?_
    refine .then ?_
    refine .seq ?_
    refine .reg rfl ?_
    refine .opp (P.mov .t3) rfl ?_
    refine .opp (P.asg .t0) rfl ?_
    refine .nil ?_
    refine .then ?_
    refine .ret ?_
    cases h
    exact .finw z3 (.r1 rfl (.tmp .g0)) trivial (Ls.of (.cons .k0 .nil)) .nil
attribute [irreducible] audit_Of
noncomputable def narrowslaw27_AuditTells (a0 : List api_Event) (a1 : ByteArray) : Option (Bool) :=
  Option.bind (narrowslaw27_alive) fun r1 => if (!r1) = true then (some false) else (Option.bind (if (decide ((a0.length : Int) > 20)) = true then (grd (okS a0.length none (some 20) none) <| some ((slc a0 0 (20 : Int).toNat))) else (some a0)) fun (y4 : (List api_Event)) => Option.bind (loopW (fun (s12 : Int × (List audit_Use)) => if (decide (s12.1 < (y4.length : Int))) = true then (Option.bind (Option.bind (at_ y4 s12.1) fun (x28 : api_Event) => Option.bind (narrowsref06_Key x28.Tx.Inv) fun r33 => thn (if (decide (x28.Tx.Kind ≠ 5)) = true then (if (decide (x28.Tx.Kind ≠ 6)) = true then true else (decide (x28.Tx.Inv.Root ≠ a1))) else (decide (x28.Tx.Inv.Root ≠ a1))) fun (y35 : Bool) => if y35 = true then (some s12.2) else (Option.bind (narrowsref06_Payload (IntKind.i64.wrap (x28.Tx.Kind - 4)) r33 x28.Tx.Fee) fun r41 => Option.bind (narrowsref04_Verify a1 r41 x28.Tx.Sig) fun r44 => Option.bind (loopW (fun (s47 : Int × Bool) => if (decide (s47.1 < (s12.2.length : Int))) = true then (Option.bind (if s47.2 = true then (Option.bind (at_ s12.2 s47.1) fun (x64 : audit_Use) => some (decide ((x64 : audit_Use) ≠ (⟨r44.1, IntKind.i64.wrap (x28.Tx.Kind - 4), r33, x28.Tx.Fee⟩ : audit_Use)))) else (some false)) fun (y57 : Bool) => some (.nx ((IntKind.i64.wrap (s47.1 + 1), y57)))) else (some (.br (s47.1, s47.2)))) (0, r44.2)) fun o49 => Lo.on o49 fun (s47 : Int × Bool) => if s47.2 = true then (grd ((s12.2.length + ([⟨r44.1, IntKind.i64.wrap (x28.Tx.Kind - 4), r33, x28.Tx.Fee⟩] : List audit_Use).length) * 64 ≤ 140737488355328) <| some ((s12.2 ++ ([⟨r44.1, IntKind.i64.wrap (x28.Tx.Kind - 4), r33, x28.Tx.Fee⟩] : List audit_Use)))) else (some s12.2))) fun (y22 : (List audit_Use)) => some (.nx ((IntKind.i64.wrap (s12.1 + 1), y22)))) else (some (.br (s12.1, s12.2)))) (0, [])) fun o14 => Lo.on o14 fun (s12 : Int × (List audit_Use)) => Option.bind (audit_Of y4 a1) fun r76 => if (decide ((r76.length : Int) ≠ (s12.2.length : Int))) = true then (some false) else (Option.bind (loopW (fun (s80 : Int) => if (decide (s80 < (r76.length : Int))) = true then (Option.bind (at_ r76 s80) fun (x93 : audit_Use) => Option.bind (at_ s12.2 s80) fun (x100 : audit_Use) => if (decide ((x93 : audit_Use) ≠ (x100 : audit_Use))) = true then (Option.map Ct.rt (some false)) else (some (.nx (IntKind.i64.wrap (s80 + 1))))) else (some (.br s80))) 0) fun o82 => Lo.on o82 fun (s80 : Int) => some true))
set_option maxRecDepth 20000 in
set_option maxHeartbeats 1000000 in
theorem S_narrowslaw27_AuditTells (v00 : Value) (a0 : List api_Event) (a1 : ByteArray) (r : Bool) (h : narrowslaw27_AuditTells a0 a1 = some r) :
    SpecF Try.prog 3 [v00, .string a1] [] [rows 27 v00 (a0.map api_Event.cs)] (fun z : Unit => True) (fun z => Bo r) (fun z M =>  M) (fun z M =>  M) := by
  refine .of func3 rfl ntmps3 rfl fun w0 D0 G0 => ?_
  unfold narrowslaw27_AuditTells at h
  refine .seq ?_
  refine .reg rfl ?_
  refine .op0 (OpP.toV (P.asg .k)) rfl ?_
  refine .nil ?_
  refine .then ?_
  refine .seq ?_
  refine .seq ?_
  refine .reg rfl ?_
  obtain ⟨r1, hr2, h⟩ := bnd_eq h
  refine .opg (G.call call4 .nil (S_narrowslaw27_alive  r1 hr2) .nil .nil (fun _ _ => rfl) (fun _ _ => rfl) rfl) rfl fun _ _ => ?_
  refine .opp (P.not .t0) rfl ?_
  refine .nil ?_
  refine .then ?_
  refine .cond .t0 (fun c3 => ?_) (fun c3 => ?_)
  · rw [if_pos c3] at h
    refine .seq ?_
    refine .reg rfl ?_
    refine .opp (P.asg .k) rfl ?_
    refine .nil ?_
    refine .then ?_
    refine .ret ?_
    refine .thr ?_
    cases h
    exact .finw () (.r1 rfl (.tmp .g0)) trivial (Ls.of .nil) .nil
  · rw [if_neg (ne_true_of_eq_false c3)] at h
    refine .skip ?_
    refine .then ?_
    obtain ⟨y4, hj6, h⟩ := bnd_eq h
    refine .cutx (γ := Value) (E1 := fun z5 => [(0, z5), (1, .string a1)]) (L1 := fun z5 => []) (R1 := fun z5 => [rows 27 z5 (y4.map api_Event.cs), rows 27 v00 (a0.map api_Event.cs)]) ?_ (fun z5 => ?_)
    · clear h
      refine .seq ?_
      refine .reg rfl ?_
      refine .opp (P.mov .g0) rfl ?_
      refine .op (V.lnr (n := a0.length) .t0 Mm.m0 map_len runUnderlying22) rfl ?_
      refine .opp (P.bin .t0 .k .gtr) rfl ?_
      refine .nil ?_
      refine .then ?_
      refine .cond .t0 (fun c7 => ?_) (fun c7 => ?_)
      · rw [if_pos c7] at hj6
        refine .reg rfl ?_
        refine .opp (P.mov .g0) rfl ?_
        obtain ⟨hb8, hj6⟩ := grd_eq hj6
        refine .capq Mm.m0 fun hc10 => ?_
        refine .opg (G.slr (li := none) (hj := (some 20)) (mk := none) .t0 .none (.some .k) .none Mm.m0 hc10 runUnderlying22 sizeOf36 (by simpa using hb8) rfl) rfl fun u9 hu11 => ?_
        refine .rhead (q := rows 27 u9 ((slc a0 0 (20 : Int).toNat).map api_Event.cs)) (fun _ hh => by simpa [slc_map] using hh) ?_
        refine .drop .k1 ?_
        refine .opp (P.asg .t0) rfl ?_
        refine .nil ?_
        cases hj6
        exact .stj u9 (.cons Mm.m0 (.cons Mm.m1 .nil)) (.of .nil) (.cons Mm.m0 (.cons Mm.m1 .nil))
      · rw [if_neg (ne_true_of_eq_false c7)] at hj6
        refine .skip ?_
        cases hj6
        exact .stj v00 (.cons Mm.m0 (.cons Mm.m1 .nil)) (.of .nil) (.cons Mm.m0 (.cons Mm.m0 .nil))
    · clear hj6
      refine .seq ?_
      refine .reg rfl ?_
      refine .opp (P.asg .k) rfl ?_
      refine .nil ?_
      refine .then ?_
      refine .seq ?_
      refine .seq ?_
      refine .reg rfl ?_
      refine .opp (P.asg .k) rfl ?_
      refine .nil ?_
      refine .then ?_
      refine .block ?_
      refine .lnil 43 7 ?_
      obtain ⟨o14, ho15, h⟩ := bnd_eq h
      refine .loopW (γ := Value) (fun (s12 : Int × (List audit_Use)) z13 => [(6, N s12.1), (5, z13), (0, z5), (1, .string a1)]) (fun (s12 : Int × (List audit_Use)) z13 => [lst 43 7 z13 (s12.2.map audit_Use.cs)]) (fun (s12 : Int × (List audit_Use)) z13 => [rows 27 z5 (y4.map api_Event.cs), rows 27 v00 (a0.map api_Event.cs)]) nilSl ho15 (.cons Mm.m0 (.cons Mm.m1 (.cons Mm.m2 (.cons Mm.m3 .nil)))) (.of (.cons .k0 .nil)) (.cons Mm.m0 (.cons Mm.m1 .nil)) (fun n20 s12 z13 hr18 => ?_)
      obtain ⟨ct19, hc16, hn17⟩ := loopK_at hr18
      refine .seq ?_
      refine .seq ?_
      refine .reg rfl ?_
      refine .opp (P.mov .g0) rfl ?_
      refine .opp (P.mov .g3) rfl ?_
      refine .op (V.lnr (n := y4.length) .t0 Mm.m0 map_len runUnderlying22) rfl ?_
      refine .opp (P.bin .t1 .t0 .lss) rfl ?_
      refine .nil ?_
      refine .then ?_
      refine .cond .t0 (fun c21 => ?_) (fun c21 => ?_)
      · rw [if_pos c21] at hc16
        refine .skip ?_
        refine .then ?_
        obtain ⟨y22, hj24, hc16⟩ := bnd_eq hc16
        refine .cutx (γ := Value) (E1 := fun z23 => [(6, N s12.1), (5, z23), (0, z5), (1, .string a1)]) (L1 := fun z23 => [lst 43 7 z23 (y22.map audit_Use.cs)]) (R1 := fun z23 => [rows 27 z5 (y4.map api_Event.cs), rows 27 v00 (a0.map api_Event.cs)]) ?_ (fun z23 => ?_)
        · clear hc16
          refine .block ?_
          refine .seq ?_
          refine .reg rfl ?_
          refine .opp (P.mov .g2) rfl ?_
          refine .opp (P.mov .g1) rfl ?_
          obtain ⟨x28, hx29, hj24⟩ := bnd_eq hj24
          obtain ⟨i30, hi31, hx29⟩ := at_eq hx29
          have hi31_ : (s12.1).toNat = i30 := by rw [hi31]; rfl
          refine .ixq Mm.m0 (map_get hx29) fun p25 q26 hq27 => ?_
          refine .opp (P.ixi (i := i30) .t0 hi31 .t0 hq27 runUnderlying22 sizeOf36) rfl ?_
          refine .opp (P.fa (off' := q26 + 2) .t0 fa_36_2 rfl) rfl ?_
          refine .op (V.ldx (u := Ag (api_Tx.cs x28.Tx)) (off := q26) (k := 2) .t0 hq27 Mm.m0 (map_get hx29) (.agg isAgg34 sizeOf34 rfl rfl)) rfl ?_
          refine .opx (X.alc (cs := (api_Tx.cs ⟨0, 0, 0, 0, ⟨0, 0, 0, 0⟩, ⟨0, ⟨#[]⟩, 0, 0, 0, 0, ⟨#[]⟩⟩, ⟨⟨0, 0, 0, 0⟩, 0⟩, ⟨0, 0, 0, 0⟩, ⟨#[]⟩⟩)) zeroValue34 rfl) rfl fun b32 => ?_
          refine .opg (G.str .t1 .g0 .k0 (.mk (cs' := (api_Tx.cs x28.Tx)) sizeOf34 rfl rfl rfl rfl)) rfl fun _ _ => ?_
          refine .nil ?_
          refine .then ?_
          refine .seq ?_
          refine .reg rfl ?_
          refine .opp (P.fa .g0 fa_34_5 rfl) rfl ?_
          refine .op (V.ld (v := Ag (api_Inv.cs x28.Tx.Inv)) .t0 .k0 (.agg isAgg30 sizeOf30 rfl rfl)) rfl ?_
          obtain ⟨r33, hr34, hj24⟩ := bnd_eq hj24
          refine .opg (G.call call5 (.cons .t0 .nil) (S_narrowsref06_Key x28.Tx.Inv r33 hr34) .nil .nil (fun _ _ => rfl) (fun _ _ => rfl) rfl) rfl fun _ _ => ?_
          refine .opp (P.asg .t0) rfl ?_
          refine .nil ?_
          refine .then ?_
          refine .seq ?_
          obtain ⟨y35, hj37, hj24⟩ := thn_eq hj24
          refine .cutx (γ := Unit) (E1 := fun z36 => [(50, Bo y35), (8, .string r33), (7, pt b32 0), (6, N s12.1), (5, z13), (0, z5), (1, .string a1)]) (L1 := fun z36 => [blk b32 34 (api_Tx.cs x28.Tx), lst 43 7 z13 (s12.2.map audit_Use.cs)]) (R1 := fun z36 => [rows 27 z5 (y4.map api_Event.cs), rows 27 v00 (a0.map api_Event.cs)]) ?_ (fun z36 => ?_)
          · clear hj24
            refine .reg rfl ?_
            refine .opp (P.fa .g1 fa_34_2 rfl) rfl ?_
            refine .op (V.ld (v := N x28.Tx.Kind) .t0 .k0 (.one isAgg3 rfl)) rfl ?_
            refine .opp (P.bin .t0 .k .neq) rfl ?_
            refine .opp (P.mov .t0) rfl ?_
            refine .split .k0 (fun c38 => ?_) (fun c38 => ?_)
            · rw [if_pos c38] at hj37
              refine .gyes rfl .g0 ?_
              refine .opp (P.fa .g2 fa_34_2 rfl) rfl ?_
              refine .gyes rfl .g1 ?_
              refine .op (V.ld (v := N x28.Tx.Kind) .t0 .k0 (.one isAgg3 rfl)) rfl ?_
              refine .gyes rfl .g1 ?_
              refine .opp (P.bin .t0 .k .neq) rfl ?_
              refine .opp (P.pickT .t1 .t0) rfl ?_
              refine .opp (P.mov .t0) rfl ?_
              refine .split .k0 (fun c39 => ?_) (fun c39 => ?_)
              · rw [if_pos c39] at hj37
                refine .gno rfl .g0 rfl rfl ?_
                refine .gno rfl .g0 rfl rfl ?_
                refine .gno rfl .g0 rfl rfl ?_
                refine .gno rfl .g0 rfl rfl ?_
                refine .gno rfl .g0 rfl rfl ?_
                refine .opp (P.pickT .t0 .k) rfl ?_
                refine .nil ?_
                subst hj37
                exact .stj () (.cons Mm.m0 (.cons Mm.m1 (.cons Mm.m2 (.cons Mm.m3 (.cons Mm.m4 (.cons Mm.m5 (.cons Mm.m6 .nil))))))) (.of (.cons .k0 (.cons .k0 .nil))) (.cons Mm.m0 (.cons Mm.m1 .nil))
              · rw [if_neg (ne_true_of_eq_false c39)] at hj37
                refine .gyes rfl .g0 ?_
                refine .opp (P.fa .g2 fa_34_5 rfl) rfl ?_
                refine .gyes rfl .g1 ?_
                refine .opp (P.fa .t0 fa_30_1 rfl) rfl ?_
                refine .gyes rfl .g1 ?_
                refine .op (V.ld (v := .string x28.Tx.Inv.Root) .t0 .k0 (.one isAgg9 rfl)) rfl ?_
                refine .gyes rfl .g1 ?_
                refine .opp (P.mov .g7) rfl ?_
                refine .gyes rfl .g2 ?_
                refine .opp (P.bin .t1 .t0 .str_neq) rfl ?_
                refine .opp (P.pickF .t1 .t0) rfl ?_
                refine .nil ?_
                subst hj37
                exact .stj () (.cons Mm.m0 (.cons Mm.m1 (.cons Mm.m2 (.cons Mm.m3 (.cons Mm.m4 (.cons Mm.m5 (.cons Mm.m6 .nil))))))) (.of (.cons .k0 (.cons .k0 .nil))) (.cons Mm.m0 (.cons Mm.m1 .nil))
            · rw [if_neg (ne_true_of_eq_false c38)] at hj37
              refine .gno rfl .g0 rfl rfl ?_
              refine .gno rfl .g0 rfl rfl ?_
              refine .gno rfl .g0 rfl rfl ?_
              refine .opp (P.pickF .t0 .k) rfl ?_
              refine .opp (P.mov .t0) rfl ?_
              refine .gyes rfl .g0 ?_
              refine .opp (P.fa .g2 fa_34_5 rfl) rfl ?_
              refine .gyes rfl .g1 ?_
              refine .opp (P.fa .t0 fa_30_1 rfl) rfl ?_
              refine .gyes rfl .g1 ?_
              refine .op (V.ld (v := .string x28.Tx.Inv.Root) .t0 .k0 (.one isAgg9 rfl)) rfl ?_
              refine .gyes rfl .g1 ?_
              refine .opp (P.mov .g7) rfl ?_
              refine .gyes rfl .g2 ?_
              refine .opp (P.bin .t1 .t0 .str_neq) rfl ?_
              refine .opp (P.pickF .t1 .t0) rfl ?_
              refine .nil ?_
              subst hj37
              exact .stj () (.cons Mm.m0 (.cons Mm.m1 (.cons Mm.m2 (.cons Mm.m3 (.cons Mm.m4 (.cons Mm.m5 (.cons Mm.m6 .nil))))))) (.of (.cons .k0 (.cons .k0 .nil))) (.cons Mm.m0 (.cons Mm.m1 .nil))
          · clear hj37
            refine .cond .t0 (fun c40 => ?_) (fun c40 => ?_)
            · rw [if_pos c40] at hj24
              refine .exit ?_
              refine .thx ?_
              refine .inb ?_
              cases hj24
              exact .stj z13 (.cons Mm.m2 (.cons Mm.m3 (.cons Mm.m4 (.cons Mm.m5 .nil)))) (.of (.cons .k1 .nil)) (.cons Mm.m0 (.cons Mm.m1 .nil))
            · rw [if_neg (ne_true_of_eq_false c40)] at hj24
              refine .skip ?_
              refine .then ?_
              refine .seq ?_
              refine .draw 16 (.on 0 .pu (.on 1 .pu (.on 4 .pu (.on 5 .pu (.on 8 .pu (.on 2 .ld (.on 3 .pu (.on 6 .ld (.on 9 .ld (.on 7 .go (.on 10 .go (.on 11 .pu (.on 12 .pu (.on 13 .pu (.on 14 .go (.on 15 .go .nl)))))))))))))))) follows_mixed (.thn (.inb (.thn (.thn (.inb (.thn .body)))))) (by kernel_rfl) ?_
              refine .dpu rfl (.n rfl) (P.mov .g5) rfl rfl ?_
              refine .dpu rfl (.n rfl) (P.fa .g2 fa_34_2 rfl) rfl rfl ?_
              refine .dpu rfl (.n rfl) (P.mov .g2) rfl rfl ?_
              refine .dpu rfl (.n rfl) (P.fa .g4 fa_34_7 rfl) rfl rfl ?_
              refine .dpu rfl (.n rfl) (P.fa .g5 fa_34_8 rfl) rfl rfl ?_
              refine .dld rfl (.n rfl) (V.ld (v := N x28.Tx.Kind) .t3 .k0 (.one isAgg3 rfl)) (fun _ h => h) rfl rfl ?_
              refine .dpu rfl (.n rfl) (P.bin .t0 .k .sub) rfl rfl ?_
              refine .dld rfl (.n rfl) (V.ld (v := Ag (api_Wide.cs x28.Tx.Fee)) .t2 .k0 (.agg isAgg28 sizeOf28 rfl rfl)) (fun _ h => h) rfl rfl ?_
              refine .dld rfl (.n rfl) (V.ld (v := .string x28.Tx.Sig) .t2 .k0 (.one isAgg9 rfl)) (fun _ h => h) rfl rfl ?_
              obtain ⟨r41, hr42, hj24⟩ := bnd_eq hj24
              refine .dgo rfl (.n rfl) (G.call call7 (.cons .t2 (.cons .t2 (.cons .t1 .nil))) (S_narrowsref06_Payload (IntKind.i64.wrap (x28.Tx.Kind - 4)) r33 x28.Tx.Fee r41 hr42) .nil .nil (fun _ _ => rfl) (fun _ _ => rfl) rfl) (.inr fun _ _ _ h => (h.imp (Ls.of (.cons .k0 (.cons .k0 .nil)))).ro (Rs.cons Mm.m1 (Rs.cons Mm.m2 Rs.nil))) fun u43 _ => ?_
              obtain ⟨r44, hr45, hj24⟩ := bnd_eq hj24
              refine .dgo rfl (.n rfl) (G.call call6 (.cons .t2 (.cons .t0 (.cons .t0 .nil))) (S_narrowsref04_Verify a1 u43 r41 x28.Tx.Sig r44 hr45) .nil (.cons Mm.m0 .nil) (fun _ _ => rfl) (fun _ _ => rfl) rfl) (.inr fun _ _ _ h => (h.imp (Ls.of (.cons .k0 (.cons .k0 .nil)))).ro (Rs.cons Mm.m1 (Rs.cons Mm.m2 Rs.nil))) fun _ _ => ?_
              refine .dpu rfl (.n rfl) (P.mov .t0) rfl rfl ?_
              refine .dpu rfl (.n rfl) (P.ext (v := N r44.1) .g0 rfl) rfl rfl ?_
              refine .dpu rfl (.n rfl) (P.ext (v := Bo r44.2) .t1 rfl) rfl rfl ?_
              refine .dgo rfl (.n rfl) (OpV.g (OpP.toV (P.asg .t1)) rfl) (.inr fun _ _ _ h => (h.imp (Ls.of (.cons .k0 (.cons .k0 .nil)))).ro (Rs.cons Mm.m1 (Rs.cons Mm.m2 Rs.nil))) fun _ _ => ?_
              refine .dgo rfl (.n rfl) (OpV.g (OpP.toV (P.asg .t1)) rfl) (.inr fun _ _ _ h => (h.imp (Ls.of (.cons .k0 (.cons .k0 .nil)))).ro (Rs.cons Mm.m1 (Rs.cons Mm.m2 Rs.nil))) fun _ _ => ?_
              refine .dnil ?_
              refine .then ?_
              refine .seq ?_
              refine .reg rfl ?_
              refine .opp (P.mov .t1) rfl ?_
              refine .opp (P.fa .g3 fa_34_2 rfl) rfl ?_
              refine .op (V.ld (v := N x28.Tx.Kind) .t0 .k0 (.one isAgg3 rfl)) rfl ?_
              refine .opp (P.bin .t0 .k .sub) rfl ?_
              refine .opp (P.mov .t3) rfl ?_
              refine .opp (P.fa .t4 fa_34_7 rfl) rfl ?_
              refine .op (V.ld (v := Ag (api_Wide.cs x28.Tx.Fee)) .t0 .k0 (.agg isAgg28 sizeOf28 rfl rfl)) rfl ?_
              refine .opp (P.bld (v := Ag (audit_Use.cs ⟨r44.1, IntKind.i64.wrap (x28.Tx.Kind - 4), r33, x28.Tx.Fee⟩)) (.cons .t3 (.cons .t2 (.cons .t1 (.cons .t0 .nil)))) (bld_run zeroValue43 runUnderlying43 pl_43 (by kernel_rfl))) rfl ?_
              refine .opx (X.alc (cs := (audit_Use.cs ⟨0, 0, ⟨#[]⟩, ⟨0, 0, 0, 0⟩⟩)) zeroValue43 rfl) rfl fun b46 => ?_
              refine .opg (G.str .t1 .g0 .k0 (.mk (cs' := (audit_Use.cs ⟨r44.1, IntKind.i64.wrap (x28.Tx.Kind - 4), r33, x28.Tx.Fee⟩)) sizeOf43 rfl rfl rfl rfl)) rfl fun _ _ => ?_
              refine .nil ?_
              refine .then ?_
              refine .seq ?_
              refine .seq ?_
              refine .reg rfl ?_
              refine .opp (P.asg .k) rfl ?_
              refine .nil ?_
              refine .then ?_
              refine .block ?_
              obtain ⟨o49, ho50, hj24⟩ := bnd_eq hj24
              refine .loopW (γ := Unit) (fun (s47 : Int × Bool) z48 => [(12, N s47.1), (11, pt b46 0), (10, Bo s47.2), (6, N s12.1), (5, z13), (0, z5), (1, .string a1)]) (fun (s47 : Int × Bool) z48 => [blk b46 43 (audit_Use.cs ⟨r44.1, IntKind.i64.wrap (x28.Tx.Kind - 4), r33, x28.Tx.Fee⟩), lst 43 7 z13 (s12.2.map audit_Use.cs)]) (fun (s47 : Int × Bool) z48 => [rows 27 z5 (y4.map api_Event.cs), rows 27 v00 (a0.map api_Event.cs)]) () ho50 (.cons Mm.m0 (.cons Mm.m1 (.cons Mm.m2 (.cons Mm.m3 (.cons Mm.m4 (.cons Mm.m5 (.cons Mm.m6 .nil))))))) (.of (.cons .k0 (.cons .k1 .nil))) (.cons Mm.m1 (.cons Mm.m2 .nil)) (fun n55 s47 z48 hr53 => ?_)
              obtain ⟨ct54, hc51, hn52⟩ := loopK_at hr53
              refine .seq ?_
              refine .seq ?_
              refine .reg rfl ?_
              refine .opp (P.mov .g0) rfl ?_
              refine .opp (P.mov .g5) rfl ?_
              refine .op (V.lnl (n := s12.2.length) .t0 .k1 map_len runUnderlying24) rfl ?_
              refine .opp (P.bin .t1 .t0 .lss) rfl ?_
              refine .nil ?_
              refine .then ?_
              refine .cond .t0 (fun c56 => ?_) (fun c56 => ?_)
              · rw [if_pos c56] at hc51
                refine .skip ?_
                refine .then ?_
                obtain ⟨y57, hj59, hc51⟩ := bnd_eq hc51
                refine .cutx (γ := Unit) (E1 := fun z58 => [(10, Bo y57), (12, N s47.1), (11, pt b46 0), (6, N s12.1), (5, z13), (0, z5), (1, .string a1)]) (L1 := fun z58 => [blk b46 43 (audit_Use.cs ⟨r44.1, IntKind.i64.wrap (x28.Tx.Kind - 4), r33, x28.Tx.Fee⟩), lst 43 7 z13 (s12.2.map audit_Use.cs)]) (R1 := fun z58 => [rows 27 z5 (y4.map api_Event.cs), rows 27 v00 (a0.map api_Event.cs)]) ?_ (fun z58 => ?_)
                · clear hc51
                  refine .block ?_
                  refine .draw 10 (.on 0 .pu (.on 1 .pu (.on 2 .pu (.on 3 .pu (.on 4 .pu (.on 5 .ld (.on 6 .ld (.on 7 .pu (.on 8 .pu (.on 9 .go .nl)))))))))) follows_mixed (.inb (.thn (.thn (.inb (.thn (.inb (.thn (.thn (.inb (.thn .body)))))))))) (by kernel_rfl) ?_
                  refine .dpu rfl (.n rfl) (P.mov .g2) rfl rfl ?_
                  refine .dpu rfl (.n rfl) (P.mov .t0) rfl rfl ?_
                  refine .split .k0 (fun c60 => ?_) (fun c60 => ?_)
                  · rw [if_pos c60] at hj59
                    refine .dpu rfl (.g rfl rfl .g0 rfl) (P.mov .g5) rfl rfl ?_
                    refine .dpu rfl (.g rfl rfl .g1 rfl) (P.mov .g2) rfl rfl ?_
                    obtain ⟨x64, hx65, hj59⟩ := bnd_eq hj59
                    obtain ⟨i66, hi67, hx65⟩ := at_eq hx65
                    have hi67_ : (s47.1).toNat = i66 := by rw [hi67]; rfl
                    refine .ixql .k1 (map_get hx65) fun p61 q62 hq63 => ?_
                    refine .dpu rfl (.g rfl rfl .g2 rfl) (P.ixi (i := i66) .t0 hi67 .t0 hq63 runUnderlying24 sizeOf43) rfl rfl ?_
                    refine .dld rfl (.g rfl rfl .g1 rfl) (V.ldxl0 (u := Ag (audit_Use.cs x64)) .t0 hq63 .k1 (map_get hx65) (.agg isAgg43 sizeOf43 rfl rfl)) (fun _ h => h) rfl rfl ?_
                    refine .dld rfl (.g rfl rfl .g1 rfl) (V.ld (v := Ag (audit_Use.cs ⟨r44.1, IntKind.i64.wrap (x28.Tx.Kind - 4), r33, x28.Tx.Fee⟩)) .g3 .k0 (.agg isAgg43 sizeOf43 rfl rfl)) (fun _ h => h) rfl rfl ?_
                    refine .dpu rfl (.g rfl rfl .g2 rfl) (P.bin .t1 .t0 (eq_43_neq _ _)) rfl rfl ?_
                    refine .dpu rfl (.n rfl) (P.pickT .t1 .t0) rfl rfl ?_
                    refine .drop .k3 ?_
                    refine .dgo rfl (.n rfl) (OpV.g (OpP.toV (P.asg .t0)) rfl) (.inr fun _ _ _ h => h) fun _ _ => ?_
                    refine .dnil ?_
                    refine .inn ?_
                    cases hj59
                    exact .stj () (.cons Mm.m0 (.cons Mm.m1 (.cons Mm.m2 (.cons Mm.m3 (.cons Mm.m4 (.cons Mm.m5 (.cons Mm.m6 .nil))))))) (.of (.cons .k0 (.cons .k0 .nil))) (.cons Mm.m0 (.cons Mm.m1 .nil))
                  · rw [if_neg (ne_true_of_eq_false c60)] at hj59
                    refine .dsk rfl (.g rfl rfl .g0 rfl) rfl rfl ?_
                    refine .dsk rfl (.g rfl rfl .g0 rfl) rfl rfl ?_
                    refine .dsk rfl (.g rfl rfl .g0 rfl) rfl rfl ?_
                    refine .dskl rfl (.g rfl rfl .g0 rfl) (fun _ h => h) rfl rfl ?_
                    refine .dskl rfl (.g rfl rfl .g0 rfl) (fun _ h => h) rfl rfl ?_
                    refine .dsk rfl (.g rfl rfl .g0 rfl) rfl rfl ?_
                    refine .dpu rfl (.n rfl) (P.pickF .t0 .k) rfl rfl ?_
                    refine .drop .k3 ?_
                    refine .dgo rfl (.n rfl) (OpV.g (OpP.toV (P.asg .t0)) rfl) (.inr fun _ _ _ h => h) fun _ _ => ?_
                    refine .dnil ?_
                    refine .inn ?_
                    cases hj59
                    exact .stj () (.cons Mm.m0 (.cons Mm.m1 (.cons Mm.m2 (.cons Mm.m3 (.cons Mm.m4 (.cons Mm.m5 (.cons Mm.m6 .nil))))))) (.of (.cons .k0 (.cons .k0 .nil))) (.cons Mm.m0 (.cons Mm.m1 .nil))
                · clear hj59
                  refine .reg rfl ?_
                  refine .opp (P.mov .g1) rfl ?_
                  refine .opp (P.bin .t0 .k .add) rfl ?_
                  refine .drop .k2 ?_
                  refine .opp (P.asg .t0) rfl ?_
                  refine .nil ?_
                  cases hc51
                  obtain ⟨m68, hm69, hn52⟩ := hn52
                  exact .rdW ((IntKind.i64.wrap (s47.1 + 1), y57)) () hm69 hn52 (.cons Mm.m0 (.cons Mm.m2 (.cons Mm.m1 (.cons Mm.m3 (.cons Mm.m4 (.cons Mm.m5 (.cons Mm.m6 .nil))))))) (.of (.cons .k0 (.cons .k0 .nil))) (.cons Mm.m0 (.cons Mm.m1 .nil))
              · rw [if_neg (ne_true_of_eq_false c56)] at hc51
                refine .exit ?_
                refine .thx ?_
                cases hc51
                refine .told (γ := Unit) hj24 hn52 (fun (s47 : Int × Bool) _ => [(12, N s47.1), (11, pt b46 0), (10, Bo s47.2), (6, N s12.1), (5, z13), (0, z5), (1, .string a1)]) (fun (s47 : Int × Bool) _ => [blk b46 43 (audit_Use.cs ⟨r44.1, IntKind.i64.wrap (x28.Tx.Kind - 4), r33, x28.Tx.Fee⟩), lst 43 7 z13 (s12.2.map audit_Use.cs)]) (fun (s47 : Int × Bool) _ => [rows 27 z5 (y4.map api_Event.cs), rows 27 v00 (a0.map api_Event.cs)]) () (.cons Mm.m0 (.cons Mm.m1 (.cons Mm.m2 (.cons Mm.m3 (.cons Mm.m4 (.cons Mm.m5 (.cons Mm.m6 .nil))))))) (.of (.cons .k0 (.cons .k0 .nil))) (.cons Mm.m0 (.cons Mm.m1 .nil)) (fun s47 _ hj24' => ?_)
                replace hj24 := hj24'
                refine .thx ?_
                refine .inb ?_
                refine .then ?_
                refine .seq ?_
                refine .reg rfl ?_
                refine .opp (P.mov .t2) rfl ?_
                refine .nil ?_
                refine .then ?_
                refine .cond .t0 (fun c70 => ?_) (fun c70 => ?_)
                · rw [if_pos c70] at hj24
                  refine .reg rfl ?_
                  refine .opp (P.mov .g3) rfl ?_
                  refine .op (V.ld (v := Ag (audit_Use.cs ⟨r44.1, IntKind.i64.wrap (x28.Tx.Kind - 4), r33, x28.Tx.Fee⟩)) .t2 .k0 (.agg isAgg43 sizeOf43 rfl rfl)) rfl ?_
                  refine .opg (G.bsl (cs := (audit_Use.cs ⟨r44.1, IntKind.i64.wrap (x28.Tx.Kind - 4), r33, x28.Tx.Fee⟩)) .t0 runUnderlying24 sizeOf43 zeroValue43 rfl rfl rfl rfl rfl) rfl fun u71 _ => ?_
                  obtain ⟨hb73, hj24⟩ := grd_eq hj24
                  refine .opg (G.app (by_ := 64) .t1 .t0 .k2 (.inr (.inr ⟨_, Mm.m0⟩)) runUnderlying24 runUnderlying24 sizeOf43 typeInfo43 rfl rfl zeroValue43 rfl rfl (by simpa using hb73) rfl) rfl fun u72 _ => ?_
                  refine .conseq .k0 (q := lst 43 7 u72 ((s12.2 ++ ([⟨r44.1, IntKind.i64.wrap (x28.Tx.Kind - 4), r33, x28.Tx.Fee⟩] : List audit_Use)).map audit_Use.cs)) (fun _ hh => by simpa [List.map_append] using hh) ?_
                  refine .drop .k3 ?_
                  refine .opp (P.asg .t0) rfl ?_
                  refine .nil ?_
                  refine .inn ?_
                  cases hj24
                  exact .stj u72 (.cons Mm.m2 (.cons Mm.m0 (.cons Mm.m3 (.cons Mm.m4 .nil)))) (.of (.cons .k0 .nil)) (.cons Mm.m0 (.cons Mm.m1 .nil))
                · rw [if_neg (ne_true_of_eq_false c70)] at hj24
                  refine .skip ?_
                  refine .inn ?_
                  cases hj24
                  exact .stj z13 (.cons Mm.m2 (.cons Mm.m3 (.cons Mm.m4 (.cons Mm.m5 .nil)))) (.of (.cons .k1 .nil)) (.cons Mm.m0 (.cons Mm.m1 .nil))
        · clear hj24
          refine .reg rfl ?_
          refine .opp (P.mov .g0) rfl ?_
          refine .opp (P.bin .t0 .k .add) rfl ?_
          refine .drop .k1 ?_
          refine .opp (P.asg .t0) rfl ?_
          refine .nil ?_
          cases hc16
          obtain ⟨m74, hm75, hn17⟩ := hn17
          exact .rdW ((IntKind.i64.wrap (s12.1 + 1), y22)) z23 hm75 hn17 (.cons Mm.m0 (.cons Mm.m1 (.cons Mm.m2 (.cons Mm.m3 .nil)))) (.of (.cons .k0 .nil)) (.cons Mm.m0 (.cons Mm.m1 .nil))
      · rw [if_neg (ne_true_of_eq_false c21)] at hc16
        refine .exit ?_
        refine .thx ?_
        cases hc16
        refine .told (γ := Value) h hn17 (fun (s12 : Int × (List audit_Use)) z13 => [(6, N s12.1), (5, z13), (0, z5), (1, .string a1)]) (fun (s12 : Int × (List audit_Use)) z13 => [lst 43 7 z13 (s12.2.map audit_Use.cs)]) (fun (s12 : Int × (List audit_Use)) z13 => [rows 27 z5 (y4.map api_Event.cs), rows 27 v00 (a0.map api_Event.cs)]) z13 (.cons Mm.m0 (.cons Mm.m1 (.cons Mm.m2 (.cons Mm.m3 .nil)))) (.of (.cons .k0 .nil)) (.cons Mm.m0 (.cons Mm.m1 .nil)) (fun s12 z13 h' => ?_)
        replace h := h'
        refine .thx ?_
        refine .inb ?_
        refine .then ?_
        refine .seq ?_
        refine .reg rfl ?_
        refine .opp (P.mov .t2) rfl ?_
        refine .opp (P.mov .t3) rfl ?_
        obtain ⟨r76, hr77, h⟩ := bnd_eq h
        refine .opg (G.call call8 (.cons .t1 (.cons .t0 .nil)) (S_audit_Of z5 y4 a1 r76 hr77) .nil (.cons Mm.m0 .nil) (fun _ _ => rfl) (fun _ _ => rfl) rfl) rfl fun u78 _ => ?_
        refine .opp (P.asg .t0) rfl ?_
        refine .nil ?_
        refine .then ?_
        refine .seq ?_
        refine .seq ?_
        refine .reg rfl ?_
        refine .opp (P.mov .g0) rfl ?_
        refine .op (V.lnl (n := r76.length) .t0 .k0 map_len runUnderlying24) rfl ?_
        refine .opp (P.mov .g3) rfl ?_
        refine .op (V.lnl (n := s12.2.length) .t0 .k1 map_len runUnderlying24) rfl ?_
        refine .opp (P.bin .t1 .t0 .neq) rfl ?_
        refine .nil ?_
        refine .then ?_
        refine .cond .t0 (fun c79 => ?_) (fun c79 => ?_)
        · rw [if_pos c79] at h
          refine .seq ?_
          refine .reg rfl ?_
          refine .opp (P.asg .k) rfl ?_
          refine .nil ?_
          refine .then ?_
          refine .ret ?_
          refine .thr ?_
          cases h
          exact .finw () (.r1 rfl (.tmp .g0)) trivial (Ls.of .nil) .nil
        · rw [if_neg (ne_true_of_eq_false c79)] at h
          refine .skip ?_
          refine .then ?_
          refine .seq ?_
          refine .seq ?_
          refine .reg rfl ?_
          refine .opp (P.asg .k) rfl ?_
          refine .nil ?_
          refine .then ?_
          refine .block ?_
          obtain ⟨o82, ho83, h⟩ := bnd_eq h
          refine .loopW (γ := Unit) (fun (s80 : Int) z81 => [(14, N s80), (13, u78), (5, z13)]) (fun (s80 : Int) z81 => [lst 43 7 u78 (r76.map audit_Use.cs), lst 43 7 z13 (s12.2.map audit_Use.cs)]) (fun (s80 : Int) z81 => [rows 27 v00 (a0.map api_Event.cs)]) () ho83 (.cons Mm.m0 (.cons Mm.m1 (.cons Mm.m3 .nil))) (.of (.cons .k0 (.cons .k0 .nil))) (.cons Mm.m1 .nil) (fun n88 s80 z81 hr86 => ?_)
          obtain ⟨ct87, hc84, hn85⟩ := loopK_at hr86
          refine .seq ?_
          refine .seq ?_
          refine .reg rfl ?_
          refine .opp (P.mov .g0) rfl ?_
          refine .opp (P.mov .g2) rfl ?_
          refine .op (V.lnl (n := r76.length) .t0 .k0 map_len runUnderlying24) rfl ?_
          refine .opp (P.bin .t1 .t0 .lss) rfl ?_
          refine .nil ?_
          refine .then ?_
          refine .cond .t0 (fun c89 => ?_) (fun c89 => ?_)
          · rw [if_pos c89] at hc84
            refine .skip ?_
            refine .then ?_
            refine .seq ?_
            refine .block ?_
            refine .seq ?_
            refine .draw 9 (.on 0 .pu (.on 1 .pu (.on 2 .pu (.on 4 .pu (.on 5 .pu (.on 6 .pu (.on 3 .ld (.on 7 .ld (.on 8 .pu .nl))))))))) follows_mixed (.thn (.inb (.thn (.thn (.inb (.thn .body)))))) (by kernel_rfl) ?_
            refine .dpu rfl (.n rfl) (P.mov .g1) rfl rfl ?_
            refine .dpu rfl (.n rfl) (P.mov .g1) rfl rfl ?_
            obtain ⟨x93, hx94, hc84⟩ := bnd_eq hc84
            obtain ⟨i95, hi96, hx94⟩ := at_eq hx94
            have hi96_ : (s80).toNat = i95 := by rw [hi96]; rfl
            refine .ixql .k0 (map_get hx94) fun p90 q91 hq92 => ?_
            refine .dpu rfl (.n rfl) (P.ixi (i := i95) .t0 hi96 .t0 hq92 runUnderlying24 sizeOf43) rfl rfl ?_
            refine .dpu rfl (.n rfl) (P.mov .g3) rfl rfl ?_
            refine .dpu rfl (.n rfl) (P.mov .g2) rfl rfl ?_
            obtain ⟨x100, hx101, hc84⟩ := bnd_eq hc84
            obtain ⟨i102, hi103, hx101⟩ := at_eq hx101
            have hi103_ : (s80).toNat = i102 := by rw [hi103]; rfl
            refine .ixql .k1 (map_get hx101) fun p97 q98 hq99 => ?_
            refine .dpu rfl (.n rfl) (P.ixi (i := i102) .t0 hi103 .t0 hq99 runUnderlying24 sizeOf43) rfl rfl ?_
            refine .dld rfl (.n rfl) (V.ldxl0 (u := Ag (audit_Use.cs x93)) .t1 hq92 .k0 (map_get hx94) (.agg isAgg43 sizeOf43 rfl rfl)) (fun _ h => h) rfl rfl ?_
            refine .dld rfl (.n rfl) (V.ldxl0 (u := Ag (audit_Use.cs x100)) .t1 hq99 .k1 (map_get hx101) (.agg isAgg43 sizeOf43 rfl rfl)) (fun _ h => h) rfl rfl ?_
            refine .dpu rfl (.n rfl) (P.bin .t1 .t0 (eq_43_neq _ _)) rfl rfl ?_
            refine .dnil ?_
            refine .then ?_
            refine .cond .t0 (fun c104 => ?_) (fun c104 => ?_)
            · rw [if_pos c104] at hc84
              refine .seq ?_
              refine .reg rfl ?_
              refine .opp (P.asg .k) rfl ?_
              refine .nil ?_
              refine .then ?_
              refine .ret ?_
              refine .inr ?_
              refine .thr ?_
              obtain ⟨x105, hx106, rfl⟩ := map_rt hc84
              obtain rfl := hn85
              obtain rfl := rt_on h
              refine .thr ?_
              refine .inr ?_
              refine .thr ?_
              cases hx106
              exact .finw () (.r1 rfl (.tmp .g0)) trivial (Ls.of .nil) .nil
            · rw [if_neg (ne_true_of_eq_false c104)] at hc84
              refine .skip ?_
              refine .inn ?_
              refine .then ?_
              refine .reg rfl ?_
              refine .opp (P.mov .g0) rfl ?_
              refine .opp (P.bin .t0 .k .add) rfl ?_
              refine .drop .k1 ?_
              refine .opp (P.asg .t0) rfl ?_
              refine .nil ?_
              cases hc84
              obtain ⟨m107, hm108, hn85⟩ := hn85
              exact .rdW (IntKind.i64.wrap (s80 + 1)) () hm108 hn85 (.cons Mm.m0 (.cons Mm.m1 (.cons Mm.m2 .nil))) (.of (.cons .k0 (.cons .k0 .nil))) (.cons Mm.m0 .nil)
          · rw [if_neg (ne_true_of_eq_false c89)] at hc84
            refine .exit ?_
            refine .thx ?_
            cases hc84
            refine .told (γ := Unit) h hn85 (fun (s80 : Int) _ => [(14, N s80), (13, u78), (5, z13)]) (fun (s80 : Int) _ => [lst 43 7 u78 (r76.map audit_Use.cs), lst 43 7 z13 (s12.2.map audit_Use.cs)]) (fun (s80 : Int) _ => [rows 27 v00 (a0.map api_Event.cs)]) () (.cons Mm.m0 (.cons Mm.m1 (.cons Mm.m2 .nil))) (.of (.cons .k0 (.cons .k0 .nil))) (.cons Mm.m0 .nil) (fun s80 _ h' => ?_)
            replace h := h'
            refine .thx ?_
            refine .inb ?_
            refine .then ?_
            refine .seq ?_
            refine .reg rfl ?_
            refine .opp (P.asg .k) rfl ?_
            refine .nil ?_
            refine .then ?_
            refine .ret ?_
            cases h
            exact .finw () (.r1 rfl (.tmp .g0)) trivial (Ls.of .nil) .nil
attribute [irreducible] narrowslaw27_AuditTells
end Go.Sl
