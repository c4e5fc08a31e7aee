/- Walked code of the program, its pure functions and their contracts. -/
import Derived.Test.YteijfoldbinghaaGreatSlHpe
set_option linter.unusedVariables false
set_option linter.unusedSimpArgs false
namespace Go.Sl
open Go.Proofs Go.Proofs.Tryz

noncomputable def mss_join (a0 : ByteArray) (a1 : ByteArray) : Option (ByteArray) :=
  grd (a0.size ≤ 140737488355328) <| grd (a1.size ≤ 140737488355328) <| Option.bind (hash_Short_n2 (a0.data.toList) (a1.data.toList)) fun r8 => some r8
set_option maxRecDepth 20000 in
set_option maxHeartbeats 1000000 in
theorem S_mss_join (a0 : ByteArray) (a1 : ByteArray) (r : ByteArray) (h : mss_join a0 a1 = some r) :
    SpecF Tryz.prog 110 [.string a0, .string a1] [] [] (fun z : Unit => True) (fun z => .string r) (fun z M =>  M) (fun z M =>  M) := by
  refine .of func110 rfl ntmps110 rfl fun w0 D0 G0 => ?_
  unfold mss_join at h
  refine .seq ?_
  refine .reg rfl ?_
  refine .op0 (OpP.toV (P.asg .k)) rfl ?_
  refine .nil ?_
  refine .then ?_
  refine .seq ?_
  refine .reg rfl ?_
  refine .opp (P.mov .t0) rfl ?_
  obtain ⟨hb2, h⟩ := grd_eq h
  refine .opg (G.s2b (e := 5) .t0 (by kernel_rfl) (by kernel_rfl) (by kernel_rfl) hb2 rfl) rfl fun u1 _ => ?_
  refine .opp (P.mov .t1) rfl ?_
  obtain ⟨hb4, h⟩ := grd_eq h
  refine .opg (G.s2b (e := 5) .t0 (by kernel_rfl) (by kernel_rfl) (by kernel_rfl) hb4 rfl) rfl fun u3 _ => ?_
  refine .oner Mm.m1 fun ho6 => ?_
  refine .oner Mm.m0 fun ho7 => ?_
  refine .opg (G.bsln (xs := [[u1], [u3]]) (.cons .t1 (.cons .t0 .nil)) runUnderlying146 sizeOf131 zeroValue131 (fill2 ho6 ho7) rfl rfl rfl rfl rfl) rfl fun u5 _ => ?_
  refine .frz .k0 ?_
  obtain ⟨r8, hr9, h⟩ := bnd_eq h
  refine .opg (G.call call121 (.cons .t0 .nil) (S_hash_Short_n2 u5 u1 (a0.data.toList) u3 (a1.data.toList) r8 hr9) .nil (.cons Mm.m0 (.cons Mm.m2 (.cons Mm.m1 .nil))) (fun _ _ => rfl) (fun _ _ => rfl) rfl) rfl fun _ _ => ?_
  refine .opp (P.asg .t0) rfl ?_
  refine .nil ?_
  refine .then ?_
  refine .ret ?_
  cases h
  exact .finw () (.r1 rfl (.tmp .g0)) trivial (Ls.of .nil) .nil
attribute [irreducible] mss_join
noncomputable def mss_climb (a0 : ByteArray) (a1 : Int) (a2 : List (List UInt8)) : Option (ByteArray) :=
  Option.bind (loopR (fun (i3 : Nat) (e6 : List UInt8) (s4 : ByteArray × Int) => Option.bind (if (decide ((bandK .i64 s4.2 1) = 0)) = true then (Option.bind (mss_join s4.1 (⟨⟨e6⟩⟩ : ByteArray)) fun r26 => some r26) else (Option.bind (mss_join (⟨⟨e6⟩⟩ : ByteArray) s4.1) fun r28 => some r28)) fun (y22 : ByteArray) => some (.nx (y22, shrK .i64 s4.2 1))) 0 a2 (a0, a1)) fun o7 => Lo.on o7 fun (s4 : ByteArray × Int) => some s4.1
set_option maxRecDepth 20000 in
set_option maxHeartbeats 1000000 in
theorem S_mss_climb (a0 : ByteArray) (a1 : Int) (v02 : Value) (a2 : List (List UInt8)) (zl02 : List Value) (r : ByteArray) (h : mss_climb a0 a1 a2 = some r) :
    SpecF Tryz.prog 98 [.string a0, N a1, v02] [] [rows 1 v02 (List.zipWith (fun (_ : List UInt8) z => [z]) a2 zl02), gz (fun (x : List UInt8) z => rows 1 z (x.map (fun x => [B8 x]))) a2 zl02] (fun z : Unit => True) (fun z => .string r) (fun z M =>  M) (fun z M =>  M) := by
  refine .of func98 rfl ntmps98 rfl fun w0 D0 G0 => ?_
  unfold mss_climb at h
  refine .seq ?_
  refine .reg rfl ?_
  refine .op0 (OpP.toV (P.asg .k)) rfl ?_
  refine .nil ?_
  refine .then ?_
  refine .seq ?_
  refine .seq ?_
  refine .reg rfl ?_
  refine .opp (P.mov .t2) rfl ?_
  refine .gzl Mm.m1 fun hz1 => ?_
  refine .op (V.lnr (n := a2.length) .g0 Mm.m0 (zip_len hz1) runUnderlying146) rfl ?_
  refine .opp (P.mov .k) rfl ?_
  refine .nil ?_
  refine .then ?_
  refine .block ?_
  obtain ⟨o7, ho8, h⟩ := bnd_eq h
  refine .gzl Mm.m1 fun hz17 => ?_
  refine .lenq Mm.m0 fun hl14 => ?_
  rw [zip_len hz17] at hl14
  refine .loopR (γ := Unit) (fun i3 (s4 : ByteArray × Int) z5 => [(11, N (i3 : Int)), (10, N (a2.length : Int)), (9, v02), (0, .string s4.1), (1, N s4.2)]) (fun (s4 : ByteArray × Int) z5 => []) (fun (s4 : ByteArray × Int) z5 => [gz (fun (x : List UInt8) z => rows 1 z (x.map (fun x => [B8 x]))) a2 zl02, rows 1 v02 (List.zipWith (fun (_ : List UInt8) z => [z]) a2 zl02)]) () ho8 (.cons Mm.m0 (.cons Mm.m1 (.cons Mm.m2 (.cons Mm.m3 (.cons Mm.m4 .nil))))) (.of .nil) (.cons Mm.m1 (.cons Mm.m0 .nil)) (fun i3 s4 z5 hi15 hr11 => ?_)
  refine .seq ?_
  refine .reg rfl ?_
  refine .opp (P.bin (v := Bo (decide ((i3 : Int) < (a2.length : Nat)))) .g0 .g1 .lss) rfl ?_
  refine .nil ?_
  refine .then ?_
  refine .seq ?_
  refine .cond .t0 (fun c16 => ?_) (fun c16 => ?_)
  · obtain ⟨e6, hx13⟩ := get_of c16
    obtain ⟨ct12, hc9, hn10⟩ := loopR_at hx13 hr11
    refine .gzx (D := (fun (_ : List UInt8) z => [z])) (q := fun z_ => rows 1 z_ (e6.map (fun x => [B8 x]))) Mm.m0 hx13 (fun _ => rfl) fun u2 _ hx18 => ?_
    refine .skip ?_
    refine .then ?_
    refine .seq ?_
    refine .block ?_
    refine .seq ?_
    refine .reg rfl ?_
    refine .ixq Mm.m2 hx18 fun p19 q20 hq21 => ?_
    refine .opp (P.ixi (i := i3) .g0 rfl .g2 hq21 runUnderlying146 sizeOf131) rfl ?_
    refine .op (V.ldx0 (u := u2) .t0 hq21 Mm.m2 hx18 (.one isAgg131 rfl)) rfl ?_
    refine .opp (P.asg .t0) rfl ?_
    refine .nil ?_
    refine .then ?_
    obtain ⟨y22, hj24, hc9⟩ := bnd_eq hc9
    refine .cutx (γ := Unit) (E1 := fun z23 => [(0, .string y22), (11, N (i3 : Int)), (10, N (a2.length : Int)), (9, v02), (1, N s4.2)]) (L1 := fun z23 => []) (R1 := fun z23 => [gz (fun (x : List UInt8) z => rows 1 z (x.map (fun x => [B8 x]))) a2 zl02, rows 1 v02 (List.zipWith (fun (_ : List UInt8) z => [z]) a2 zl02)]) ?_ (fun z23 => ?_)
    · clear hc9
      refine .seq ?_
      refine .reg rfl ?_
      refine .opp (P.mov .g5) rfl ?_
      refine .opp (P.bin .t0 .k .and) rfl ?_
      refine .opp (P.bin .t0 .k .eql) rfl ?_
      refine .nil ?_
      refine .then ?_
      refine .cond .t0 (fun c25 => ?_) (fun c25 => ?_)
      · rw [if_pos c25] at hj24
        refine .reg rfl ?_
        refine .opp (P.mov .g4) rfl ?_
        refine .opp (P.mov .t1) rfl ?_
        refine .op (V.b2s (l := e6) (e := 5) .t0 Mm.m0 (by kernel_rfl) (by kernel_rfl) (by kernel_rfl)) rfl ?_
        obtain ⟨r26, hr27, hj24⟩ := bnd_eq hj24
        refine .opg (G.call call110 (.cons .t1 (.cons .t0 .nil)) (S_mss_join s4.1 (⟨⟨e6⟩⟩ : ByteArray) r26 hr27) .nil .nil (fun _ _ => rfl) (fun _ _ => rfl) rfl) rfl fun _ _ => ?_
        refine .drop .k4 ?_
        refine .opp (P.asg .t0) rfl ?_
        refine .nil ?_
        cases hj24
        exact .stj () (.cons Mm.m0 (.cons Mm.m1 (.cons Mm.m2 (.cons Mm.m3 (.cons Mm.m4 .nil))))) (.of .nil) (.cons Mm.m1 (.cons Mm.m2 .nil))
      · rw [if_neg (ne_true_of_eq_false c25)] at hj24
        refine .reg rfl ?_
        refine .opp (P.mov .t0) rfl ?_
        refine .op (V.b2s (l := e6) (e := 5) .t0 Mm.m0 (by kernel_rfl) (by kernel_rfl) (by kernel_rfl)) rfl ?_
        refine .opp (P.mov .g4) rfl ?_
        obtain ⟨r28, hr29, hj24⟩ := bnd_eq hj24
        refine .opg (G.call call110 (.cons .t1 (.cons .t0 .nil)) (S_mss_join (⟨⟨e6⟩⟩ : ByteArray) s4.1 r28 hr29) .nil .nil (fun _ _ => rfl) (fun _ _ => rfl) rfl) rfl fun _ _ => ?_
        refine .drop .k4 ?_
        refine .opp (P.asg .t0) rfl ?_
        refine .nil ?_
        cases hj24
        exact .stj () (.cons Mm.m0 (.cons Mm.m1 (.cons Mm.m2 (.cons Mm.m3 (.cons Mm.m4 .nil))))) (.of .nil) (.cons Mm.m1 (.cons Mm.m2 .nil))
    · clear hj24
      refine .reg rfl ?_
      refine .opp (P.mov .g4) rfl ?_
      refine .opp (P.bin .t0 .k (.shr (by decide))) rfl ?_
      refine .drop .k5 ?_
      refine .opp (P.asg .t0) rfl ?_
      refine .nil ?_
      refine .inn ?_
      refine .then ?_
      refine .reg rfl ?_
      refine .opp (P.bin .g2 .k (.addc (inc_ok (lt_of_get hx13) hl14))) rfl ?_
      refine .drop .k3 ?_
      refine .opp (P.mov .t0) rfl ?_
      refine .nil ?_
      cases hc9
      exact .rdR (y22, shrK .i64 s4.2 1) () hn10 (lt_of_get hx13) (.cons Mm.m0 (.cons Mm.m3 (.cons Mm.m4 (.cons Mm.m2 (.cons Mm.m1 .nil))))) (.of .nil) (.cons Mm.m0 (.cons Mm.m1 .nil))
  · obtain rfl := loopR_end (le_of_not c16) hr11
    have h := dn_on h
    refine .exit ?_
    refine .thx ?_
    refine .thx ?_
    refine .inb ?_
    refine .then ?_
    refine .seq ?_
    refine .reg rfl ?_
    refine .opp (P.mov .t3) rfl ?_
    refine .opp (P.asg .t0) rfl ?_
    refine .nil ?_
    refine .then ?_
    refine .ret ?_
    cases h
    exact .finw () (.r1 rfl (.tmp .g0)) trivial (Ls.of .nil) .nil
attribute [irreducible] mss_climb
noncomputable def mss_Verify (a0 : ByteArray) (a1 : List UInt8) (a2 : ByteArray) : Option (Int × Bool) :=
  Option.bind (mss_Leaf a2) fun r1 => thn (if (decide ((a2.size : Int) ≠ 145)) = true then true else (decide (r1 ≥ 8))) fun (y3 : Bool) => if y3 = true then (some (0, false)) else (grd (okS a2.size (some 1) none none) <| grd ((a2.extract (1 : Int).toNat a2.size).size ≤ 140737488355328) <| Option.bind (blob_Cut ((a2.extract (1 : Int).toNat a2.size).data.toList) 8) fun r11 => grd (okS r11.length none (some 15) none) <| Option.bind (loopR (fun (i22 : Nat) (e25 : List UInt8) (s23 : (List ByteArray)) => grd ((s23.length + ([(⟨⟨e25⟩⟩ : ByteArray)] : List ByteArray).length) * 16 ≤ 140737488355328) <| some (.nx ((s23 ++ ([(⟨⟨e25⟩⟩ : ByteArray)] : List ByteArray))))) 0 (slc r11 0 (15 : Int).toNat) ([])) fun o26 => Lo.on o26 fun (s23 : (List ByteArray)) => grd (okS r11.length (some 15) none none) <| Option.bind (ots_Open a1 s23) fun r50 => Option.bind (mss_climb r50 r1 (slc r11 (15 : Int).toNat r11.length)) fun r52 => if (decide (r52 ≠ a0)) = true then (some (0, false)) else (some (r1, true)))
set_option maxRecDepth 20000 in
set_option maxHeartbeats 1000000 in
theorem S_mss_Verify (a0 : ByteArray) (v01 : Value) (a1 : List UInt8) (a2 : ByteArray) (r : Int × Bool) (h : mss_Verify a0 a1 a2 = some r) :
    SpecF Tryz.prog 88 [.string a0, v01, .string a2] [] [rows 1 v01 (a1.map (fun x => [B8 x]))] (fun z : Unit => True) (fun z => Tu [N r.1, Bo r.2]) (fun z M =>  M) (fun z M =>  M) := by
  refine .of func88 rfl ntmps88 rfl fun w0 D0 G0 => ?_
  unfold mss_Verify at h
  refine .seq ?_
  refine .reg rfl ?_
  refine .op0 (OpP.toV (P.asg .k)) rfl ?_
  refine .op0 (OpP.toV (P.asg .k)) rfl ?_
  refine .nil ?_
  refine .then ?_
  refine .seq ?_
  refine .reg rfl ?_
  refine .opp (P.mov .g2) rfl ?_
  obtain ⟨r1, hr2, h⟩ := bnd_eq h
  refine .opg (G.call call96 (.cons .t0 .nil) (S_mss_Leaf a2 r1 hr2) .nil .nil (fun _ _ => rfl) (fun _ _ => rfl) rfl) rfl fun _ _ => ?_
  refine .opp (P.asg .t0) rfl ?_
  refine .nil ?_
  refine .then ?_
  refine .seq ?_
  obtain ⟨y3, hj5, h⟩ := thn_eq h
  refine .cutx (γ := Unit) (E1 := fun z4 => [(21, Bo y3), (8, N r1), (0, .string a0), (1, v01), (2, .string a2)]) (L1 := fun z4 => []) (R1 := fun z4 => [rows 1 v01 (a1.map (fun x => [B8 x]))]) ?_ (fun z4 => ?_)
  · clear h
    refine .reg rfl ?_
    refine .opp (P.mov .g3) rfl ?_
    refine .opp (P.lens .t0 runUnderlying9) rfl ?_
    refine .opp (P.bin .t0 .k .neq) rfl ?_
    refine .opp (P.mov .t0) rfl ?_
    refine .split .k0 (fun c6 => ?_) (fun c6 => ?_)
    · rw [if_pos c6] at hj5
      refine .gno rfl .g0 rfl rfl ?_
      refine .gno rfl .g0 rfl rfl ?_
      refine .opp (P.pickT .t0 .k) rfl ?_
      refine .nil ?_
      subst hj5
      exact .stj () (.cons Mm.m0 (.cons Mm.m1 (.cons Mm.m2 (.cons Mm.m3 (.cons Mm.m4 .nil))))) (.of .nil) (.cons Mm.m0 .nil)
    · rw [if_neg (ne_true_of_eq_false c6)] at hj5
      refine .gyes rfl .g0 ?_
      refine .opp (P.mov .g1) rfl ?_
      refine .gyes rfl .g1 ?_
      refine .opp (P.bin .t0 .k .geq) rfl ?_
      refine .opp (P.pickF .t1 .t0) rfl ?_
      refine .nil ?_
      subst hj5
      exact .stj () (.cons Mm.m0 (.cons Mm.m1 (.cons Mm.m2 (.cons Mm.m3 (.cons Mm.m4 .nil))))) (.of .nil) (.cons Mm.m0 .nil)
  · clear hj5
    refine .cond .t0 (fun c7 => ?_) (fun c7 => ?_)
    · rw [if_pos c7] at h
      refine .seq ?_
      refine .reg rfl ?_
      refine .opp (P.asg .k) rfl ?_
      refine .opp (P.asg .k) rfl ?_
      refine .nil ?_
      refine .then ?_
      refine .ret ?_
      refine .thr ?_
      cases h
      exact .finw () (.r2 rfl (.tmp .g1) (.tmp .g0)) trivial (Ls.of .nil) .nil
    · rw [if_neg (ne_true_of_eq_false c7)] at h
      refine .skip ?_
      refine .then ?_
      refine .seq ?_
      refine .reg rfl ?_
      refine .opp (P.mov .t3) rfl ?_
      obtain ⟨hb8, h⟩ := grd_eq h
      refine .opp (P.slst (li := (some 1)) (hj := none) .t0 (.some .k) .none runUnderlying9 hb8) rfl ?_
      obtain ⟨hb10, h⟩ := grd_eq h
      refine .opg (G.s2b (e := 5) .t0 (by kernel_rfl) (by kernel_rfl) (by kernel_rfl) hb10 rfl) rfl fun u9 _ => ?_
      obtain ⟨r11, hr12, h⟩ := bnd_eq h
      refine .opg (G.call call97 (.cons .t0 (.cons .k .nil)) (S_blob_Cut u9 ((a2.extract (1 : Int).toNat a2.size).data.toList) 8 r11 hr12) .nil (.cons Mm.m0 .nil) (fun _ _ => rfl) (fun _ _ => rfl) rfl) rfl fun ⟨u13, w14⟩ _ => ?_
      refine .opp (P.asg .t0) rfl ?_
      refine .nil ?_
      refine .then ?_
      refine .seq ?_
      refine .reg rfl ?_
      refine .opp (P.asg .k) rfl ?_
      refine .nil ?_
      refine .then ?_
      refine .seq ?_
      refine .seq ?_
      refine .reg rfl ?_
      refine .opp (P.mov .g1) rfl ?_
      refine .frz .k0 ?_
      refine .gzl Mm.m1 fun hz15 => ?_
      obtain ⟨hb16, h⟩ := grd_eq h
      refine .capq Mm.m0 fun hc18 => ?_
      refine .opg (G.slr (li := none) (hj := (some 15)) (mk := none) .t0 .none (.some .k) .none Mm.m0 hc18 runUnderlying146 sizeOf131 (by simpa [zip_len hz15] using hb16) rfl) rfl fun u17 hu19 => ?_
      refine .rhead (q := rows 1 u17 (List.zipWith (fun (_ : List UInt8) z => [z]) (slc r11 0 (15 : Int).toNat) (slc w14 0 (15 : Int).toNat))) (fun _ hh => by simpa [slc_zip, zip_len hz15] using hh) ?_
      refine .gzs 0 (15 : Int).toNat Mm.m2 ?_
      refine .gzl Mm.m0 fun hz20 => ?_
      refine .op (V.lnr (n := (slc r11 0 (15 : Int).toNat).length) .g0 Mm.m1 (zip_len hz20) runUnderlying146) rfl ?_
      refine .opp (P.mov .k) rfl ?_
      refine .nil ?_
      refine .then ?_
      refine .block ?_
      refine .lnil 9 1 ?_
      obtain ⟨o26, ho27, h⟩ := bnd_eq h
      refine .gzl Mm.m0 fun hz36 => ?_
      refine .lenq Mm.m1 fun hl33 => ?_
      rw [zip_len hz36] at hl33
      refine .loopR (γ := Value) (fun i22 (s23 : (List ByteArray)) z24 => [(29, N (i22 : Int)), (28, N ((slc r11 0 (15 : Int).toNat).length : Int)), (27, u17), (10, z24), (9, u13), (8, N r1), (0, .string a0), (1, v01)]) (fun (s23 : (List ByteArray)) z24 => [lst 9 1 z24 (s23.map (fun x => [.string x]))]) (fun (s23 : (List ByteArray)) z24 => [gz (fun (x : List UInt8) z => rows 1 z (x.map (fun x => [B8 x]))) (slc r11 0 (15 : Int).toNat) (slc w14 0 (15 : Int).toNat), rows 1 u17 (List.zipWith (fun (_ : List UInt8) z => [z]) (slc r11 0 (15 : Int).toNat) (slc w14 0 (15 : Int).toNat)), gz (fun (x : List UInt8) z => rows 1 z (x.map (fun x => [B8 x]))) r11 w14, rows 1 u13 (List.zipWith (fun (_ : List UInt8) z => [z]) r11 w14), rows 1 v01 (a1.map (fun x => [B8 x]))]) nilSl ho27 (.cons Mm.m0 (.cons Mm.m1 (.cons Mm.m2 (.cons Mm.m3 (.cons Mm.m4 (.cons Mm.m5 (.cons Mm.m6 (.cons Mm.m7 .nil)))))))) (.of (.cons .k0 .nil)) (.cons Mm.m0 (.cons Mm.m1 (.cons Mm.m3 (.cons Mm.m2 (.cons Mm.m5 .nil))))) (fun i22 s23 z24 hi34 hr30 => ?_)
      refine .seq ?_
      refine .reg rfl ?_
      refine .opp (P.bin (v := Bo (decide ((i22 : Int) < ((slc r11 0 (15 : Int).toNat).length : Nat)))) .g0 .g1 .lss) rfl ?_
      refine .nil ?_
      refine .then ?_
      refine .seq ?_
      refine .cond .t0 (fun c35 => ?_) (fun c35 => ?_)
      · obtain ⟨e25, hx32⟩ := get_of c35
        obtain ⟨ct31, hc28, hn29⟩ := loopR_at hx32 hr30
        refine .gzx (D := (fun (_ : List UInt8) z => [z])) (q := fun z_ => rows 1 z_ (e25.map (fun x => [B8 x]))) Mm.m0 hx32 (fun _ => rfl) fun u21 _ hx37 => ?_
        refine .skip ?_
        refine .then ?_
        refine .seq ?_
        refine .block ?_
        refine .seq ?_
        refine .reg rfl ?_
        refine .ixq Mm.m2 hx37 fun p38 q39 hq40 => ?_
        refine .opp (P.ixi (i := i22) .g0 rfl .g2 hq40 runUnderlying146 sizeOf131) rfl ?_
        refine .op (V.ldx0 (u := u21) .t0 hq40 Mm.m2 hx37 (.one isAgg131 rfl)) rfl ?_
        refine .opp (P.asg .t0) rfl ?_
        refine .nil ?_
        refine .then ?_
        refine .reg rfl ?_
        refine .opp (P.mov .g4) rfl ?_
        refine .opp (P.mov .t1) rfl ?_
        refine .op (V.b2s (l := e25) (e := 5) .t0 Mm.m0 (by kernel_rfl) (by kernel_rfl) (by kernel_rfl)) rfl ?_
        refine .opg (G.bsl (cs := [.string (⟨⟨e25⟩⟩ : ByteArray)]) .t0 runUnderlying152 sizeOf9 zeroValue9 rfl rfl rfl rfl rfl) rfl fun u41 _ => ?_
        obtain ⟨hb43, hc28⟩ := grd_eq hc28
        refine .opg (G.app (by_ := 16) .t1 .t0 .k1 (.inr (.inr ⟨_, Mm.m0⟩)) runUnderlying152 runUnderlying152 sizeOf9 typeInfo9 rfl rfl zeroValue9 rfl rfl (by simpa using hb43) rfl) rfl fun u42 _ => ?_
        refine .conseq .k0 (q := lst 9 1 u42 ((s23 ++ ([(⟨⟨e25⟩⟩ : ByteArray)] : List ByteArray)).map (fun x => [.string x]))) (fun _ hh => by simpa [List.map_append] using hh) ?_
        refine .drop .k4 ?_
        refine .opp (P.asg .t0) rfl ?_
        refine .nil ?_
        refine .inn ?_
        refine .then ?_
        refine .reg rfl ?_
        refine .opp (P.bin .g1 .k (.addc (inc_ok (lt_of_get hx32) hl33))) rfl ?_
        refine .drop .k2 ?_
        refine .opp (P.mov .t0) rfl ?_
        refine .nil ?_
        cases hc28
        exact .rdR ((s23 ++ ([(⟨⟨e25⟩⟩ : ByteArray)] : List ByteArray))) u42 hn29 (lt_of_get hx32) (.cons Mm.m0 (.cons Mm.m2 (.cons Mm.m3 (.cons Mm.m1 (.cons Mm.m4 (.cons Mm.m5 (.cons Mm.m6 (.cons Mm.m7 .nil)))))))) (.of (.cons .k0 .nil)) (.cons Mm.m1 (.cons Mm.m2 (.cons Mm.m3 (.cons Mm.m4 (.cons Mm.m5 .nil)))))
      · obtain rfl := loopR_end (le_of_not c35) hr30
        have h := dn_on h
        refine .exit ?_
        refine .thx ?_
        refine .thx ?_
        refine .inb ?_
        refine .then ?_
        refine .seq ?_
        refine .seq ?_
        refine .drawl [] [gz (fun (x : List UInt8) z => rows 1 z (x.map (fun x => [B8 x]))) (slc r11 0 (15 : Int).toNat) (slc w14 0 (15 : Int).toNat), rows 1 u17 (List.zipWith (fun (_ : List UInt8) z => [z]) (slc r11 0 (15 : Int).toNat) (slc w14 0 (15 : Int).toNat)), gz (fun (x : List UInt8) z => rows 1 z (x.map (fun x => [B8 x]))) r11 w14, rows 1 u13 (List.zipWith (fun (_ : List UInt8) z => [z]) r11 w14), rows 1 v01 (a1.map (fun x => [B8 x]))] (Ls.of .nil) (Rs.cons Mm.m0 (Rs.cons Mm.m1 (Rs.cons Mm.m2 (Rs.cons Mm.m3 (Rs.cons Mm.m4 Rs.nil))))) 9 (.on 0 .pu (.on 1 .pu (.on 3 .pu (.on 4 .pu (.on 5 .pu (.on 7 .pu (.on 2 .go (.on 6 .go (.on 8 .pu .nl))))))))) follows_mixed (.thn (.thn .body)) (by kernel_rfl) ?_
        refine .dpu rfl (.n rfl) (P.mov .t7) rfl rfl ?_
        refine .dpu rfl (.n rfl) (P.mov .t4) rfl rfl ?_
        refine .dpu rfl (.n rfl) (P.mov .g6) rfl rfl ?_
        refine .dpu rfl (.n rfl) (P.mov .t6) rfl rfl ?_
        refine .gzl Mm.m2 fun hz44 => ?_
        obtain ⟨hb45, h⟩ := grd_eq h
        refine .slnq Mm.m3 fun hq49 => ?_
        simp only [zip_len hz44] at hq49
        refine .dpu rfl (.n rfl) (P.slp (li := (some 15)) (hj := none) (mk := none) .t0 (.some .k) .none .none hq49 runUnderlying146 sizeOf131 (by simpa [zip_len hz44] using hb45)) rfl rfl ?_
        refine .slgen Mm.m3 (by simpa [zip_len hz44] using hb45) fun u46 => ?_
        refine .rhead (q := rows 1 u46 (List.zipWith (fun (_ : List UInt8) z => [z]) (slc r11 (15 : Int).toNat r11.length) (slc w14 (15 : Int).toNat r11.length))) (fun _ hh => by simpa [slc_zip, zip_len hz44] using hh) ?_
        refine .gzs (15 : Int).toNat r11.length Mm.m3 ?_
        refine .dpu rfl (.n rfl) (P.mov .t8) rfl rfl ?_
        refine .frz .k0 ?_
        obtain ⟨r50, hr51, h⟩ := bnd_eq h
        refine .dgo rfl (.n rfl) (G.call call99 (.cons .t4 (.cons .t3 .nil)) (S_ots_Open v01 a1 z24 s23 r50 hr51) .nil (.cons Mm.m7 (.cons Mm.m0 .nil)) (fun _ _ => rfl) (fun _ _ => rfl) rfl) (.inr fun _ _ _ h => (h.imp (Ls.of .nil)).ro (Rs.cons Mm.m3 (Rs.cons Mm.m4 (Rs.cons Mm.m5 (Rs.cons Mm.m6 (Rs.cons Mm.m7 Rs.nil)))))) fun _ _ => ?_
        obtain ⟨r52, hr53, h⟩ := bnd_eq h
        refine .dgo rfl (.n rfl) (G.call call98 (.cons .t0 (.cons .t2 (.cons .t1 .nil))) (S_mss_climb r50 r1 u46 (slc r11 (15 : Int).toNat r11.length) (slc w14 (15 : Int).toNat r11.length) r52 hr53) .nil (.cons Mm.m2 (.cons Mm.m1 .nil)) (fun _ _ => rfl) (fun _ _ => rfl) rfl) (.inr fun _ _ _ h => (h.imp (Ls.of .nil)).ro (Rs.cons Mm.m3 (Rs.cons Mm.m4 (Rs.cons Mm.m5 (Rs.cons Mm.m6 (Rs.cons Mm.m7 Rs.nil)))))) fun _ _ => ?_
        refine .dpu rfl (.n rfl) (P.bin .t0 .t0 .str_neq) rfl rfl ?_
        refine .dnil ?_
        refine .then ?_
        refine .cond .t0 (fun c54 => ?_) (fun c54 => ?_)
        · rw [if_pos c54] at h
          refine .seq ?_
          refine .reg rfl ?_
          refine .opp (P.asg .k) rfl ?_
          refine .opp (P.asg .k) rfl ?_
          refine .nil ?_
          refine .then ?_
          refine .ret ?_
          refine .thr ?_
          cases h
          exact .finw () (.r2 rfl (.tmp .g1) (.tmp .g0)) trivial (Ls.of .nil) .nil
        · rw [if_neg (ne_true_of_eq_false c54)] at h
          refine .skip ?_
          refine .then ?_
          refine .seq ?_
          refine .reg rfl ?_
          refine .opp (P.mov .t3) rfl ?_
          refine .opp (P.asg .t0) rfl ?_
          refine .opp (P.asg .k) rfl ?_
          refine .nil ?_
          refine .then ?_
          refine .ret ?_
          cases h
          exact .finw () (.r2 rfl (.tmp .g1) (.tmp .g0)) trivial (Ls.of .nil) .nil
attribute [irreducible] mss_Verify
noncomputable def escrow_signed (a0 : api_Tx) (a1 : Int) : Option (Bool) :=
  Option.bind (deal_Key a0.Inv) fun r2 => Option.bind (deal_Payload a1 r2 a0.Fee) fun r4 => Option.bind (mss_Verify a0.Inv.Root r4 a0.Sig) fun r7 => some r7.2
set_option maxRecDepth 20000 in
set_option maxHeartbeats 1000000 in
theorem S_escrow_signed (a0 : api_Tx) (a1 : Int) (r : Bool) (h : escrow_signed a0 a1 = some r) :
    SpecF Tryz.prog 79 [Ag (api_Tx.cs a0), N a1] [] [] (fun z : Unit => True) (fun z => Bo r) (fun z M =>  M) (fun z M =>  M) := by
  refine .of func79 rfl ntmps79 rfl fun w0 D0 G0 => ?_
  unfold escrow_signed at h
  refine .seq ?_
  refine .reg rfl ?_
  refine .opx (X.box (cs := (api_Tx.cs a0)) .t0 rfl) rfl fun b1 => ?_
  refine .op0 (OpP.toV (P.asg .k)) rfl ?_
  refine .nil ?_
  refine .then ?_
  refine .seq ?_
  refine .draw 18 (.on 0 .pu (.on 1 .pu (.on 3 .pu (.on 4 .pu (.on 7 .pu (.on 10 .pu (.on 2 .ld (.on 5 .ld (.on 8 .ld (.on 11 .ld (.on 6 .go (.on 9 .go (.on 12 .go (.on 13 .pu (.on 14 .pu (.on 15 .pu (.on 16 .go (.on 17 .go .nl)))))))))))))))))) follows_mixed (.thn .body) (by kernel_rfl) ?_
  refine .dpu rfl (.n rfl) (P.fa .g0 fa_36_5 rfl) rfl rfl ?_
  refine .dpu rfl (.n rfl) (P.fa .t0 fa_32_1 rfl) rfl rfl ?_
  refine .dpu rfl (.n rfl) (P.mov .t2) rfl rfl ?_
  refine .dpu rfl (.n rfl) (P.fa .g2 fa_36_5 rfl) rfl rfl ?_
  refine .dpu rfl (.n rfl) (P.fa .g3 fa_36_7 rfl) rfl rfl ?_
  refine .dpu rfl (.n rfl) (P.fa .t4 fa_36_8 rfl) rfl rfl ?_
  refine .dld rfl (.n rfl) (V.ld (v := .string a0.Inv.Root) .t4 .k0 (.one isAgg9 rfl)) (fun _ h => h) rfl rfl ?_
  refine .dld rfl (.n rfl) (V.ld (v := Ag (api_Inv.cs a0.Inv)) .t3 .k0 (.agg isAgg32 sizeOf32 rfl rfl)) (fun _ h => h) rfl rfl ?_
  refine .dld rfl (.n rfl) (V.ld (v := Ag (api_Wide.cs a0.Fee)) .t3 .k0 (.agg isAgg30 sizeOf30 rfl rfl)) (fun _ h => h) rfl rfl ?_
  refine .dld rfl (.n rfl) (V.ld (v := .string a0.Sig) .t3 .k0 (.one isAgg9 rfl)) (fun _ h => h) rfl rfl ?_
  obtain ⟨r2, hr3, h⟩ := bnd_eq h
  refine .dgo rfl (.n rfl) (G.call call75 (.cons .t2 .nil) (S_deal_Key a0.Inv r2 hr3) .nil .nil (fun _ _ => rfl) (fun _ _ => rfl) rfl) (.inr fun _ _ _ h => h) fun _ _ => ?_
  obtain ⟨r4, hr5, h⟩ := bnd_eq h
  refine .dgo rfl (.n rfl) (G.call call89 (.cons .t4 (.cons .t0 (.cons .t1 .nil))) (S_deal_Payload a1 r2 a0.Fee r4 hr5) .nil .nil (fun _ _ => rfl) (fun _ _ => rfl) rfl) (.inr fun _ _ _ h => (h.imp (Ls.of (.cons .k1 .nil))).ro Rs.nil) fun u6 _ => ?_
  refine .frz .k0 ?_
  obtain ⟨r7, hr8, h⟩ := bnd_eq h
  refine .dgo rfl (.n rfl) (G.call call88 (.cons .t2 (.cons .t0 (.cons .t0 .nil))) (S_mss_Verify a0.Inv.Root u6 r4 a0.Sig r7 hr8) .nil (.cons Mm.m0 .nil) (fun _ _ => rfl) (fun _ _ => rfl) rfl) (.inr fun _ _ _ h => (h.imp (Ls.of (.cons .k0 .nil))).ro Rs.nil) fun _ _ => ?_
  refine .dpu rfl (.n rfl) (P.mov .t0) rfl rfl ?_
  refine .dpu rfl (.n rfl) (P.ext (v := N r7.1) .g0 rfl) rfl rfl ?_
  refine .dpu rfl (.n rfl) (P.ext (v := Bo r7.2) .t1 rfl) rfl rfl ?_
  refine .dgo rfl (.n rfl) (OpV.g0 (OpP.toV (P.asg .t1)) rfl) (.inr fun _ _ _ h => (h.imp (Ls.of (.cons .k0 .nil))).ro Rs.nil) fun _ _ => ?_
  refine .dgo rfl (.n rfl) (OpV.g (OpP.toV (P.asg .t0)) rfl) (.inr fun _ _ _ h => (h.imp (Ls.of (.cons .k0 .nil))).ro Rs.nil) fun _ _ => ?_
  refine .dnil ?_
  refine .then ?_
  refine .seq ?_
  refine .reg rfl ?_
  refine .opp (P.mov .t0) rfl ?_
  refine .opp (P.asg .t0) rfl ?_
  refine .nil ?_
  refine .then ?_
  refine .ret ?_
  cases h
  exact .finw () (.r1 rfl (.tmp .g0)) trivial (Ls.of .nil) .nil
attribute [irreducible] escrow_signed
noncomputable def escrow_State_fulfil (a0 : escrow_State) (a1 : api_Tx) : Option (Px (escrow_State)) :=
  pxe (escrow_State_lock a0 a1) (fun e4 => some (.er e4)) fun r2 => pxe (escrow_need (decide (a0.Time < a1.Var.Expiry)) 34) (fun e10 => some (.er e10)) fun r8 => pxe (escrow_need (wide_Sub a1.Var.Amount a1.Fee).2 36) (fun e14 => some (.er e14)) fun r12 => Option.bind (escrow_signed a1 1) fun r15 => pxe (escrow_need r15 35) (fun e19 => some (.er e19)) fun r17 => Option.bind (if (decide (a0.Side = 1)) = true then (pxe (escrow_put_int a0.Purse a1.Inv.To a1.Inv.Recv (wide_Sub a1.Var.Amount a1.Fee).1) (fun e26 => Option.map Lo.rt (some (.er e26))) fun r24 => pxe (escrow_put_int r24 a1.From a1.Inv.Recv a1.Fee) (fun e31 => Option.map Lo.rt (some (.er e31))) fun r29 => pxe (escrow_State_free (⟨a0.Side, a0.Time, r29, a0.Vault, a0.Nonces, a0.Held, a0.Burnt, a0.Locks⟩ : escrow_State) a1.Inv.Recv a1.Var.Amount) (fun e36 => Option.map Lo.rt (some (.er e36))) fun r34 => some (Lo.dn r34)) else (pxe (escrow_put_int a0.Vault a1.Inv.Router a1.Inv.Send a1.Var.Amount) (fun e41 => Option.map Lo.rt (some (.er e41))) fun r39 => some (Lo.dn ⟨a0.Side, a0.Time, a0.Purse, r39, a0.Nonces, a0.Held, a0.Burnt, a0.Locks⟩))) fun o49 => Lo.on o49 fun (y20 : escrow_State) => Option.bind (at_ y20.Locks ((r2.1 : Nat) : Int)) fun (x44 : escrow_Lock) => some ((.ok ((⟨y20.Side, y20.Time, y20.Purse, y20.Vault, y20.Nonces, y20.Held, y20.Burnt, (y20.Locks.set r2.1 (⟨x44.Key, x44.Digest, 2⟩ : escrow_Lock))⟩ : escrow_State))))
set_option maxRecDepth 20000 in
set_option maxHeartbeats 1000000 in
theorem S_escrow_State_fulfil (b00 : Nat) (a0 : escrow_State) (z00a : Value) (a1 : api_Tx) (r : Px (escrow_State)) (h : escrow_State_fulfil a0 a1 = some r) :
    SpecX Tryz.prog 66 [pt b00 0, Ag (api_Tx.cs a1)] [blk b00 45 (escrow_State.cs a0 z00a), lst 76 3 z00a (a0.Locks.map escrow_Lock.cs)] [] (fun (r : escrow_State) (z : Unit) => True) mustCh r (fun r z => Tu []) (fun r z M => blk b00 45 (escrow_State.cs r z00a) :: lst 76 3 z00a (r.Locks.map escrow_Lock.cs) ::  M) (fun r z M =>  M) := by
  refine .of func66 rfl ntmps66 rfl fun w0 D0 G0 => ?_
  unfold escrow_State_fulfil at h
  refine .seq ?_
  refine .reg rfl ?_
  refine .opx (X.box (cs := (api_Tx.cs a1)) .t1 rfl) rfl fun b1 => ?_
  refine .nil ?_
  refine .then ?_
  refine .seq ?_
  refine .reg rfl ?_
  refine .opp (P.mov .g1) rfl ?_
  refine .op (V.ld (v := Ag (api_Tx.cs a1)) .g1 .k0 (.agg isAgg36 sizeOf36 rfl rfl)) rfl ?_
  rcases pxe_eq h with ⟨e4, hr3, h⟩ | ⟨r2, hr3, h⟩
  · refine .opg (G.callx call78 (.cons .t1 (.cons .t0 .nil)) (S_escrow_State_lock b00 a0 z00a a1 (.er e4) hr3).er (.cons .k1 (.cons .k1 .nil)) .nil ?_) rfl fun _ h_ => h_.elim
    refine .thp ?_
    cases h
    exact .xer rfl
  · refine .opg (G.call call78 (.cons .t1 (.cons .t0 .nil)) (S_escrow_State_lock b00 a0 z00a a1 (.ok r2) hr3).ok (.cons .k1 (.cons .k1 .nil)) .nil (fun _ _ => rfl) (fun _ _ => rfl) rfl) rfl fun ⟨b5, q6⟩ hq7 => ?_
    refine .opp (P.asg .t0) rfl ?_
    refine .nil ?_
    refine .then ?_
    refine .seq ?_
    refine .draw 9 (.on 0 .pu (.on 1 .pu (.on 2 .pu (.on 4 .pu (.on 5 .pu (.on 3 .ld (.on 6 .ld (.on 7 .pu (.on 8 .go .nl))))))))) follows_mixed (.thn .bodx) (by kernel_rfl) ?_
    refine .dpu rfl (.n rfl) (P.mov .g2) rfl rfl ?_
    refine .dpu rfl (.n rfl) (P.nilc .t0) rfl rfl ?_
    refine .dpu rfl (.n rfl) (P.fa .t0 fa_45_1 rfl) rfl rfl ?_
    refine .dpu rfl (.n rfl) (P.fa .g2 fa_36_6 rfl) rfl rfl ?_
    refine .dpu rfl (.n rfl) (P.fa .t0 fa_34_1 rfl) rfl rfl ?_
    refine .dld rfl (.n rfl) (V.ld (v := N a0.Time) .t1 .k0 (.one isAgg3 rfl)) (fun _ h => h) rfl rfl ?_
    refine .dld rfl (.n rfl) (V.ld (v := N a1.Var.Expiry) .t1 .k2 (.one isAgg3 rfl)) (fun _ h => h) rfl rfl ?_
    refine .dpu rfl (.n rfl) (P.bin .t1 .t0 .lss) rfl rfl ?_
    rcases pxe_eq h with ⟨e10, hr9, h⟩ | ⟨r8, hr9, h⟩
    · refine .dgo rfl (.n rfl) (G.callx call72 (.cons .t0 (.cons .k .nil)) (S_escrow_need (decide (a0.Time < a1.Var.Expiry)) 34 (.er e10) hr9).er .nil .nil ?_) (.inr fun _ _ h_ _ => h_.elim) fun _ h_ => h_.elim
      refine .thp ?_
      cases h
      exact .xer rfl
    · refine .dgo rfl (.n rfl) (G.call call72 (.cons .t0 (.cons .k .nil)) (S_escrow_need (decide (a0.Time < a1.Var.Expiry)) 34 (.ok r8) hr9).ok .nil .nil (fun _ _ => rfl) (fun _ _ => rfl) rfl) (.inr fun _ _ _ h => h) fun _ _ => ?_
      refine .drop .k0 ?_
      refine .dnil ?_
      refine .then ?_
      refine .seq ?_
      refine .reg rfl ?_
      refine .opp (P.fa .g1 fa_36_6 rfl) rfl ?_
      refine .opp (P.fa .t0 fa_34_0 rfl) rfl ?_
      refine .op (V.ld (v := Ag (api_Wide.cs a1.Var.Amount)) .t0 .k2 (.agg isAgg30 sizeOf30 rfl rfl)) rfl ?_
      refine .opp (P.fa .g2 fa_36_7 rfl) rfl ?_
      refine .op (V.ld (v := Ag (api_Wide.cs a1.Fee)) .t0 .k2 (.agg isAgg30 sizeOf30 rfl rfl)) rfl ?_
      refine .opg (G.call call39 (.cons .t1 (.cons .t0 .nil)) (S_wide_Sub a1.Var.Amount a1.Fee _ rfl) .nil .nil (fun _ _ => rfl) (fun _ _ => rfl) rfl) rfl fun _ _ => ?_
      refine .opp (P.mov .t0) rfl ?_
      refine .opp (P.ext (v := Ag (api_Wide.cs (wide_Sub a1.Var.Amount a1.Fee).1)) .g0 rfl) rfl ?_
      refine .opp (P.ext (v := Bo (wide_Sub a1.Var.Amount a1.Fee).2) .t1 rfl) rfl ?_
      refine .opx (X.alc (cs := (api_Wide.cs ⟨0, 0, 0, 0⟩)) zeroValue30 rfl) rfl fun b11 => ?_
      refine .opg (G.str .t2 .g0 .k0 (.mk (cs' := (api_Wide.cs (wide_Sub a1.Var.Amount a1.Fee).1)) sizeOf30 rfl rfl rfl rfl)) rfl fun _ _ => ?_
      refine .opp (P.asg .t1) rfl ?_
      refine .nil ?_
      refine .then ?_
      refine .seq ?_
      refine .reg rfl ?_
      refine .opp (P.mov .t0) rfl ?_
      rcases pxe_eq h with ⟨e14, hr13, h⟩ | ⟨r12, hr13, h⟩
      · refine .opg (G.callx call72 (.cons .t0 (.cons .k .nil)) (S_escrow_need (wide_Sub a1.Var.Amount a1.Fee).2 36 (.er e14) hr13).er .nil .nil ?_) rfl fun _ h_ => h_.elim
        refine .thp ?_
        cases h
        exact .xer rfl
      · refine .opg (G.call call72 (.cons .t0 (.cons .k .nil)) (S_escrow_need (wide_Sub a1.Var.Amount a1.Fee).2 36 (.ok r12) hr13).ok .nil .nil (fun _ _ => rfl) (fun _ _ => rfl) rfl) rfl fun _ _ => ?_
        refine .drop .k0 ?_
        refine .nil ?_
        refine .then ?_
        refine .seq ?_
        refine .reg rfl ?_
        refine .op (V.ld (v := Ag (api_Tx.cs a1)) .g2 .k3 (.agg isAgg36 sizeOf36 rfl rfl)) rfl ?_
        obtain ⟨r15, hr16, h⟩ := bnd_eq h
        refine .opg (G.call call79 (.cons .t0 (.cons .k .nil)) (S_escrow_signed a1 1 r15 hr16) .nil .nil (fun _ _ => rfl) (fun _ _ => rfl) rfl) rfl fun _ _ => ?_
        rcases pxe_eq h with ⟨e19, hr18, h⟩ | ⟨r17, hr18, h⟩
        · refine .opg (G.callx call72 (.cons .t0 (.cons .k .nil)) (S_escrow_need r15 35 (.er e19) hr18).er .nil .nil ?_) rfl fun _ h_ => h_.elim
          refine .thp ?_
          cases h
          exact .xer rfl
        · refine .opg (G.call call72 (.cons .t0 (.cons .k .nil)) (S_escrow_need r15 35 (.ok r17) hr18).ok .nil .nil (fun _ _ => rfl) (fun _ _ => rfl) rfl) rfl fun _ _ => ?_
          refine .drop .k0 ?_
          refine .nil ?_
          refine .then ?_
          obtain ⟨o49, hj22, h⟩ := bnd_eq h
          refine .cuto (γ := Unit) h (E1 := fun (y20 : escrow_State) _ => [(4, pt b5 q6)]) (L1 := fun (y20 : escrow_State) _ => [blk b00 45 (escrow_State.cs y20 z00a), lst 76 3 z00a (y20.Locks.map escrow_Lock.cs)]) (R1 := fun (y20 : escrow_State) _ => []) ?_ (fun y20 _ h' => ?_)
          · refine .seq ?_
            refine .reg rfl ?_
            refine .opp (P.mov .g3) rfl ?_
            refine .opp (P.nilc .t0) rfl ?_
            refine .opp (P.fa .t0 fa_45_0 rfl) rfl ?_
            refine .op (V.ld (v := N a0.Side) .t0 .k1 (.one isAgg3 rfl)) rfl ?_
            refine .opp (P.bin .t0 .k .eql) rfl ?_
            refine .nil ?_
            refine .then ?_
            refine .cond .t0 (fun c23 => ?_) (fun c23 => ?_)
            · rw [if_pos c23] at hj22
              refine .seq ?_
              refine .drawl [blk b11 30 (api_Wide.cs (wide_Sub a1.Var.Amount a1.Fee).1), lst 76 3 z00a (a0.Locks.map escrow_Lock.cs), blk b1 36 (api_Tx.cs a1)] [] (Ls.of (.cons .k0 (.cons .k1 (.cons .k1 .nil)))) Rs.nil 11 (.on 0 .pu (.on 1 .pu (.on 2 .pu (.on 3 .pu (.on 4 .pu (.on 6 .pu (.on 7 .pu (.on 5 .ld (.on 8 .ld (.on 9 .ld (.on 10 .go .nl))))))))))) follows_mixed (.thn (.thn .bodx)) (by kernel_rfl) ?_
              refine .dpu rfl (.n rfl) (P.mov .g3) rfl rfl ?_
              refine .dpu rfl (.n rfl) (P.nilc .t0) rfl rfl ?_
              refine .dpu rfl (.n rfl) (P.fa .t0 fa_45_2 rfl) rfl rfl ?_
              refine .dpu rfl (.n rfl) (P.fa .g3 fa_36_5 rfl) rfl rfl ?_
              refine .dpu rfl (.n rfl) (P.fa .t0 fa_32_5 rfl) rfl rfl ?_
              refine .dpu rfl (.n rfl) (P.fa .g4 fa_36_5 rfl) rfl rfl ?_
              refine .dpu rfl (.n rfl) (P.fa .t0 fa_32_4 rfl) rfl rfl ?_
              refine .dld rfl (.n rfl) (V.ld (v := N a1.Inv.To) .t1 .k2 (.one isAgg3 rfl)) (fun _ h => (h.imp (Ls.of (.cons .k0 (.cons .k1 (.cons .k1 .nil))))).ro Rs.nil) rfl rfl ?_
              refine .dld rfl (.n rfl) (V.ld (v := N a1.Inv.Recv) .t1 .k2 (.one isAgg3 rfl)) (fun _ h => (h.imp (Ls.of (.cons .k0 (.cons .k1 (.cons .k1 .nil))))).ro Rs.nil) rfl rfl ?_
              refine .dld rfl (.n rfl) (V.ld (v := Ag (api_Wide.cs (wide_Sub a1.Var.Amount a1.Fee).1)) .t3 .k0 (.agg isAgg30 sizeOf30 rfl rfl)) (fun _ h => (h.imp (Ls.of (.cons .k0 (.cons .k1 (.cons .k1 .nil))))).ro Rs.nil) rfl rfl ?_
              refine .conseq .k1 (q := blk b00 45 ((List.take 2 (escrow_State.cs a0 z00a)) ++ (purse_Book.cs a0.Purse) ++ (List.drop (2 + 64) (escrow_State.cs a0 z00a)))) (fun _ h_ => by exact h_) ?_
              rcases pxe_eq hj22 with ⟨e26, hr25, hj22⟩ | ⟨r24, hr25, hj22⟩
              · refine .dgo rfl (.n rfl) (G.callx call70 (.cons .t3 (.cons .t2 (.cons .t1 (.cons .t0 .nil)))) (S_escrow_put_int b00 2 45 (List.take 2 (escrow_State.cs a0 z00a)) (List.drop (2 + 64) (escrow_State.cs a0 z00a)) (by rfl) a0.Purse a1.Inv.To a1.Inv.Recv (wide_Sub a1.Var.Amount a1.Fee).1 (.er e26) hr25).er (.cons .k0 .nil) .nil ?_) (.inr fun _ _ h_ _ => h_.elim) fun _ h_ => h_.elim
                refine .thp ?_
                obtain ⟨x27, hx28, rfl⟩ := map_lrt hj22
                obtain rfl := rt_on h
                refine .thp ?_
                cases hx28
                exact .xer rfl
              · refine .dgo rfl (.n rfl) (G.call call70 (.cons .t3 (.cons .t2 (.cons .t1 (.cons .t0 .nil)))) (S_escrow_put_int b00 2 45 (List.take 2 (escrow_State.cs a0 z00a)) (List.drop (2 + 64) (escrow_State.cs a0 z00a)) (by rfl) a0.Purse a1.Inv.To a1.Inv.Recv (wide_Sub a1.Var.Amount a1.Fee).1 (.ok r24) hr25).ok (.cons .k0 .nil) .nil (fun _ _ => rfl) (fun _ _ => rfl) rfl) (.inr fun _ _ _ h => (h.imp (Ls.of (.cons .k1 (.cons .k1 (.cons .k1 .nil))))).ro Rs.nil) fun _ _ => ?_
                refine .conseq .k0 (q := blk b00 45 (escrow_State.cs ⟨a0.Side, a0.Time, r24, a0.Vault, a0.Nonces, a0.Held, a0.Burnt, a0.Locks⟩ z00a)) (fun _ h_ => by exact h_) ?_
                refine .drop .k0 ?_
                refine .dnil ?_
                refine .then ?_
                refine .seq ?_
                refine .drawl [blk b11 30 (api_Wide.cs (wide_Sub a1.Var.Amount a1.Fee).1), lst 76 3 z00a (a0.Locks.map escrow_Lock.cs), blk b1 36 (api_Tx.cs a1)] [] (Ls.of (.cons .k1 (.cons .k1 (.cons .k1 .nil)))) Rs.nil 11 (.on 0 .pu (.on 1 .pu (.on 2 .pu (.on 3 .pu (.on 5 .pu (.on 6 .pu (.on 8 .pu (.on 4 .ld (.on 7 .ld (.on 9 .ld (.on 10 .go .nl))))))))))) follows_mixed (.thn (.thn .bodx)) (by kernel_rfl) ?_
                refine .dpu rfl (.n rfl) (P.mov .g2) rfl rfl ?_
                refine .dpu rfl (.n rfl) (P.nilc .t0) rfl rfl ?_
                refine .dpu rfl (.n rfl) (P.fa .t0 fa_45_2 rfl) rfl rfl ?_
                refine .dpu rfl (.n rfl) (P.fa .g2 fa_36_0 rfl) rfl rfl ?_
                refine .dpu rfl (.n rfl) (P.fa .g3 fa_36_5 rfl) rfl rfl ?_
                refine .dpu rfl (.n rfl) (P.fa .t0 fa_32_4 rfl) rfl rfl ?_
                refine .dpu rfl (.n rfl) (P.fa .g4 fa_36_7 rfl) rfl rfl ?_
                refine .dld rfl (.n rfl) (V.ld (v := N a1.From) .t2 .k2 (.one isAgg3 rfl)) (fun _ h => (h.imp (Ls.of (.cons .k1 (.cons .k1 (.cons .k1 .nil))))).ro Rs.nil) rfl rfl ?_
                refine .dld rfl (.n rfl) (V.ld (v := N a1.Inv.Recv) .t2 .k2 (.one isAgg3 rfl)) (fun _ h => (h.imp (Ls.of (.cons .k1 (.cons .k1 (.cons .k1 .nil))))).ro Rs.nil) rfl rfl ?_
                refine .dld rfl (.n rfl) (V.ld (v := Ag (api_Wide.cs a1.Fee)) .t2 .k2 (.agg isAgg30 sizeOf30 rfl rfl)) (fun _ h => (h.imp (Ls.of (.cons .k1 (.cons .k1 (.cons .k1 .nil))))).ro Rs.nil) rfl rfl ?_
                refine .conseq .k0 (q := blk b00 45 ((List.take 2 (escrow_State.cs ⟨a0.Side, a0.Time, r24, a0.Vault, a0.Nonces, a0.Held, a0.Burnt, a0.Locks⟩ z00a)) ++ (purse_Book.cs r24) ++ (List.drop (2 + 64) (escrow_State.cs ⟨a0.Side, a0.Time, r24, a0.Vault, a0.Nonces, a0.Held, a0.Burnt, a0.Locks⟩ z00a)))) (fun _ h_ => by exact h_) ?_
                rcases pxe_eq hj22 with ⟨e31, hr30, hj22⟩ | ⟨r29, hr30, hj22⟩
                · refine .dgo rfl (.n rfl) (G.callx call70 (.cons .t3 (.cons .t2 (.cons .t1 (.cons .t0 .nil)))) (S_escrow_put_int b00 2 45 (List.take 2 (escrow_State.cs ⟨a0.Side, a0.Time, r24, a0.Vault, a0.Nonces, a0.Held, a0.Burnt, a0.Locks⟩ z00a)) (List.drop (2 + 64) (escrow_State.cs ⟨a0.Side, a0.Time, r24, a0.Vault, a0.Nonces, a0.Held, a0.Burnt, a0.Locks⟩ z00a)) (by rfl) r24 a1.From a1.Inv.Recv a1.Fee (.er e31) hr30).er (.cons .k0 .nil) .nil ?_) (.inr fun _ _ h_ _ => h_.elim) fun _ h_ => h_.elim
                  refine .thp ?_
                  obtain ⟨x32, hx33, rfl⟩ := map_lrt hj22
                  obtain rfl := rt_on h
                  refine .thp ?_
                  cases hx33
                  exact .xer rfl
                · refine .dgo rfl (.n rfl) (G.call call70 (.cons .t3 (.cons .t2 (.cons .t1 (.cons .t0 .nil)))) (S_escrow_put_int b00 2 45 (List.take 2 (escrow_State.cs ⟨a0.Side, a0.Time, r24, a0.Vault, a0.Nonces, a0.Held, a0.Burnt, a0.Locks⟩ z00a)) (List.drop (2 + 64) (escrow_State.cs ⟨a0.Side, a0.Time, r24, a0.Vault, a0.Nonces, a0.Held, a0.Burnt, a0.Locks⟩ z00a)) (by rfl) r24 a1.From a1.Inv.Recv a1.Fee (.ok r29) hr30).ok (.cons .k0 .nil) .nil (fun _ _ => rfl) (fun _ _ => rfl) rfl) (.inr fun _ _ _ h => (h.imp (Ls.of (.cons .k1 (.cons .k1 (.cons .k1 .nil))))).ro Rs.nil) fun _ _ => ?_
                  refine .conseq .k0 (q := blk b00 45 (escrow_State.cs ⟨a0.Side, a0.Time, r29, a0.Vault, a0.Nonces, a0.Held, a0.Burnt, a0.Locks⟩ z00a)) (fun _ h_ => by exact h_) ?_
                  refine .drop .k0 ?_
                  refine .dnil ?_
                  refine .then ?_
                  refine .reg rfl ?_
                  refine .opp (P.mov .t2) rfl ?_
                  refine .opp (P.fa .g2 fa_36_5 rfl) rfl ?_
                  refine .opp (P.fa .t0 fa_32_4 rfl) rfl ?_
                  refine .op (V.ld (v := N a1.Inv.Recv) .t0 .k3 (.one isAgg3 rfl)) rfl ?_
                  refine .opp (P.fa .t3 fa_36_6 rfl) rfl ?_
                  refine .opp (P.fa .t0 fa_34_0 rfl) rfl ?_
                  refine .op (V.ld (v := Ag (api_Wide.cs a1.Var.Amount)) .t0 .k3 (.agg isAgg30 sizeOf30 rfl rfl)) rfl ?_
                  rcases pxe_eq hj22 with ⟨e36, hr35, hj22⟩ | ⟨r34, hr35, hj22⟩
                  · refine .opg (G.callx call74 (.cons .t2 (.cons .t1 (.cons .t0 .nil))) (S_escrow_State_free b00 (⟨a0.Side, a0.Time, r29, a0.Vault, a0.Nonces, a0.Held, a0.Burnt, a0.Locks⟩ : escrow_State) z00a a1.Inv.Recv a1.Var.Amount (.er e36) hr35).er (.cons .k0 (.cons .k1 .nil)) .nil ?_) rfl fun _ h_ => h_.elim
                    obtain ⟨x37, hx38, rfl⟩ := map_lrt hj22
                    obtain rfl := rt_on h
                    refine .thp ?_
                    cases hx38
                    exact .xer rfl
                  · refine .opg (G.call call74 (.cons .t2 (.cons .t1 (.cons .t0 .nil))) (S_escrow_State_free b00 (⟨a0.Side, a0.Time, r29, a0.Vault, a0.Nonces, a0.Held, a0.Burnt, a0.Locks⟩ : escrow_State) z00a a1.Inv.Recv a1.Var.Amount (.ok r34) hr35).ok (.cons .k0 (.cons .k1 .nil)) .nil (fun _ _ => rfl) (fun _ _ => rfl) rfl) rfl fun _ _ => ?_
                    refine .drop .k0 ?_
                    refine .nil ?_
                    cases hj22
                    exact .sty r34 () (dn_on h) (.cons Mm.m0 .nil) (.of (.cons .k0 (.cons .k0 .nil))) .nil
            · rw [if_neg (ne_true_of_eq_false c23)] at hj22
              refine .drawl [blk b11 30 (api_Wide.cs (wide_Sub a1.Var.Amount a1.Fee).1), lst 76 3 z00a (a0.Locks.map escrow_Lock.cs), blk b1 36 (api_Tx.cs a1)] [] (Ls.of (.cons .k0 (.cons .k1 (.cons .k1 .nil)))) Rs.nil 13 (.on 0 .pu (.on 1 .pu (.on 2 .pu (.on 3 .pu (.on 4 .pu (.on 6 .pu (.on 7 .pu (.on 9 .pu (.on 10 .pu (.on 5 .ld (.on 8 .ld (.on 11 .ld (.on 12 .go .nl))))))))))))) follows_mixed (.thn .bodx) (by kernel_rfl) ?_
              refine .dpu rfl (.n rfl) (P.mov .t3) rfl rfl ?_
              refine .dpu rfl (.n rfl) (P.nilc .t0) rfl rfl ?_
              refine .dpu rfl (.n rfl) (P.fa .t0 fa_45_3 rfl) rfl rfl ?_
              refine .dpu rfl (.n rfl) (P.fa .g3 fa_36_5 rfl) rfl rfl ?_
              refine .dpu rfl (.n rfl) (P.fa .t0 fa_32_2 rfl) rfl rfl ?_
              refine .dpu rfl (.n rfl) (P.fa .g4 fa_36_5 rfl) rfl rfl ?_
              refine .dpu rfl (.n rfl) (P.fa .t0 fa_32_3 rfl) rfl rfl ?_
              refine .dpu rfl (.n rfl) (P.fa .t5 fa_36_6 rfl) rfl rfl ?_
              refine .dpu rfl (.n rfl) (P.fa .t0 fa_34_0 rfl) rfl rfl ?_
              refine .dld rfl (.n rfl) (V.ld (v := N a1.Inv.Router) .t2 .k2 (.one isAgg3 rfl)) (fun _ h => (h.imp (Ls.of (.cons .k0 (.cons .k1 (.cons .k1 .nil))))).ro Rs.nil) rfl rfl ?_
              refine .dld rfl (.n rfl) (V.ld (v := N a1.Inv.Send) .t2 .k2 (.one isAgg3 rfl)) (fun _ h => (h.imp (Ls.of (.cons .k0 (.cons .k1 (.cons .k1 .nil))))).ro Rs.nil) rfl rfl ?_
              refine .dld rfl (.n rfl) (V.ld (v := Ag (api_Wide.cs a1.Var.Amount)) .t2 .k2 (.agg isAgg30 sizeOf30 rfl rfl)) (fun _ h => (h.imp (Ls.of (.cons .k0 (.cons .k1 (.cons .k1 .nil))))).ro Rs.nil) rfl rfl ?_
              refine .conseq .k1 (q := blk b00 45 ((List.take 66 (escrow_State.cs a0 z00a)) ++ (purse_Book.cs a0.Vault) ++ (List.drop (66 + 64) (escrow_State.cs a0 z00a)))) (fun _ h_ => by exact h_) ?_
              rcases pxe_eq hj22 with ⟨e41, hr40, hj22⟩ | ⟨r39, hr40, hj22⟩
              · refine .dgo rfl (.n rfl) (G.callx call70 (.cons .t3 (.cons .t2 (.cons .t1 (.cons .t0 .nil)))) (S_escrow_put_int b00 66 45 (List.take 66 (escrow_State.cs a0 z00a)) (List.drop (66 + 64) (escrow_State.cs a0 z00a)) (by rfl) a0.Vault a1.Inv.Router a1.Inv.Send a1.Var.Amount (.er e41) hr40).er (.cons .k0 .nil) .nil ?_) (.inr fun _ _ h_ _ => h_.elim) fun _ h_ => h_.elim
                obtain ⟨x42, hx43, rfl⟩ := map_lrt hj22
                obtain rfl := rt_on h
                refine .thp ?_
                cases hx43
                exact .xer rfl
              · refine .dgo rfl (.n rfl) (G.call call70 (.cons .t3 (.cons .t2 (.cons .t1 (.cons .t0 .nil)))) (S_escrow_put_int b00 66 45 (List.take 66 (escrow_State.cs a0 z00a)) (List.drop (66 + 64) (escrow_State.cs a0 z00a)) (by rfl) a0.Vault a1.Inv.Router a1.Inv.Send a1.Var.Amount (.ok r39) hr40).ok (.cons .k0 .nil) .nil (fun _ _ => rfl) (fun _ _ => rfl) rfl) (.inr fun _ _ _ h => (h.imp (Ls.of (.cons .k1 (.cons .k1 (.cons .k1 .nil))))).ro Rs.nil) fun _ _ => ?_
                refine .conseq .k0 (q := blk b00 45 (escrow_State.cs ⟨a0.Side, a0.Time, a0.Purse, r39, a0.Nonces, a0.Held, a0.Burnt, a0.Locks⟩ z00a)) (fun _ h_ => by exact h_) ?_
                refine .drop .k0 ?_
                refine .dnil ?_
                cases hj22
                exact .sty ⟨a0.Side, a0.Time, a0.Purse, r39, a0.Nonces, a0.Held, a0.Burnt, a0.Locks⟩ () (dn_on h) (.cons Mm.m1 .nil) (.of (.cons .k0 (.cons .k1 .nil))) .nil
          · replace h := h'
            refine .reg rfl ?_
            refine .opp (P.mov .t0) rfl ?_
            refine .opp (P.nilc .t0) rfl ?_
            refine .opp (P.fa (off' := q6 + 2) .t0 fa_76_2 rfl) rfl ?_
            obtain ⟨x44, hx45, h⟩ := bnd_eq h
            obtain ⟨i46, hi47, hx45⟩ := at_eq hx45
            have hx48 : y20.Locks[r2.1]? = some x44 := by have hk_ : r2.1 = i46 := Int.ofNat.inj hi47; rw [hk_]; exact hx45
            refine .opg (G.stx (off := q6) (k := 2) (cs' := (escrow_Lock.cs ⟨x44.Key, x44.Digest, 2⟩)) .k .t0 (hq7.1) .k1 (map_get hx48) (.mk sizeOf3 rfl rfl rfl rfl)) rfl fun _ _ => ?_
            refine .conseq .k0 (q := lst 76 3 z00a ((y20.Locks.set r2.1 (⟨x44.Key, x44.Digest, 2⟩ : escrow_Lock)).map escrow_Lock.cs)) (fun _ h_ => by simpa [List.map_set] using h_) ?_
            refine .nil ?_
            cases h
            refine .xokn ?_
            exact .finwn () (.r0 rfl) trivial (Ls.of (.cons .k1 (.cons .k0 .nil))) .nil
attribute [irreducible] escrow_State_fulfil
noncomputable def escrow_State_cancel (a0 : escrow_State) (a1 : api_Tx) : Option (Px (escrow_State)) :=
  pxe (escrow_State_lock a0 a1) (fun e4 => some (.er e4)) fun r2 => Option.bind (if (decide (a0.Side = 1)) = true then (Option.bind (if (!(decide (a0.Time < a1.Var.Expiry))) = true then (pxe (escrow_need true 35) (fun e18 => Option.map Lo.rt (Option.map Lo.rt (some (.er e18)))) fun r16 => some (Lo.dn ())) else (Option.bind (escrow_signed a1 2) fun r23 => pxe (escrow_need r23 35) (fun e27 => Option.map Lo.rt (Option.map Lo.rt (some (.er e27)))) fun r25 => some (Lo.dn ()))) fun o37 => Lo.on o37 fun (_ : Unit) => pxe (escrow_put_int a0.Vault a1.Inv.Router a1.Inv.Recv a1.Var.Amount) (fun e34 => Option.map Lo.rt (some (.er e34))) fun r32 => some (Lo.dn ⟨a0.Side, a0.Time, a0.Purse, r32, a0.Nonces, a0.Held, a0.Burnt, a0.Locks⟩)) else (Option.bind (if (!(decide (a0.Time < a1.Var.Expiry))) = true then (pxe (escrow_need true 37) (fun e44 => Option.map Lo.rt (Option.map Lo.rt (some (.er e44)))) fun r42 => some (Lo.dn ())) else (pxe (escrow_need (decide (a1.From = a1.Inv.Router)) 37) (fun e51 => Option.map Lo.rt (Option.map Lo.rt (some (.er e51)))) fun r49 => some (Lo.dn ()))) fun o66 => Lo.on o66 fun (_ : Unit) => pxe (escrow_put_int a0.Purse a1.Inv.User a1.Inv.Send a1.Var.Amount) (fun e58 => Option.map Lo.rt (some (.er e58))) fun r56 => pxe (escrow_State_free (⟨a0.Side, a0.Time, r56, a0.Vault, a0.Nonces, a0.Held, a0.Burnt, a0.Locks⟩ : escrow_State) a1.Inv.Send a1.Var.Amount) (fun e63 => Option.map Lo.rt (some (.er e63))) fun r61 => some (Lo.dn r61))) fun o72 => Lo.on o72 fun (y8 : escrow_State) => Option.bind (at_ y8.Locks ((r2.1 : Nat) : Int)) fun (x67 : escrow_Lock) => some ((.ok ((⟨y8.Side, y8.Time, y8.Purse, y8.Vault, y8.Nonces, y8.Held, y8.Burnt, (y8.Locks.set r2.1 (⟨x67.Key, x67.Digest, 3⟩ : escrow_Lock))⟩ : escrow_State))))
set_option maxRecDepth 20000 in
set_option maxHeartbeats 1000000 in
theorem S_escrow_State_cancel (b00 : Nat) (a0 : escrow_State) (z00a : Value) (a1 : api_Tx) (r : Px (escrow_State)) (h : escrow_State_cancel a0 a1 = some r) :
    SpecX Tryz.prog 67 [pt b00 0, Ag (api_Tx.cs a1)] [blk b00 45 (escrow_State.cs a0 z00a), lst 76 3 z00a (a0.Locks.map escrow_Lock.cs)] [] (fun (r : escrow_State) (z : Unit) => True) mustCh r (fun r z => Tu []) (fun r z M => blk b00 45 (escrow_State.cs r z00a) :: lst 76 3 z00a (r.Locks.map escrow_Lock.cs) ::  M) (fun r z M =>  M) := by
  refine .of func67 rfl ntmps67 rfl fun w0 D0 G0 => ?_
  unfold escrow_State_cancel at h
  refine .seq ?_
  refine .reg rfl ?_
  refine .opx (X.box (cs := (api_Tx.cs a1)) .t1 rfl) rfl fun b1 => ?_
  refine .nil ?_
  refine .then ?_
  refine .seq ?_
  refine .reg rfl ?_
  refine .opp (P.mov .g1) rfl ?_
  refine .op (V.ld (v := Ag (api_Tx.cs a1)) .g1 .k0 (.agg isAgg36 sizeOf36 rfl rfl)) rfl ?_
  rcases pxe_eq h with ⟨e4, hr3, h⟩ | ⟨r2, hr3, h⟩
  · refine .opg (G.callx call78 (.cons .t1 (.cons .t0 .nil)) (S_escrow_State_lock b00 a0 z00a a1 (.er e4) hr3).er (.cons .k1 (.cons .k1 .nil)) .nil ?_) rfl fun _ h_ => h_.elim
    refine .thp ?_
    cases h
    exact .xer rfl
  · refine .opg (G.call call78 (.cons .t1 (.cons .t0 .nil)) (S_escrow_State_lock b00 a0 z00a a1 (.ok r2) hr3).ok (.cons .k1 (.cons .k1 .nil)) .nil (fun _ _ => rfl) (fun _ _ => rfl) rfl) rfl fun ⟨b5, q6⟩ hq7 => ?_
    refine .opp (P.asg .t0) rfl ?_
    refine .nil ?_
    refine .then ?_
    refine .seq ?_
    refine .draw 9 (.on 0 .pu (.on 1 .pu (.on 2 .pu (.on 4 .pu (.on 5 .pu (.on 3 .ld (.on 6 .ld (.on 7 .pu (.on 8 .go .nl))))))))) follows_mixed (.thn .bodx) (by kernel_rfl) ?_
    refine .dpu rfl (.n rfl) (P.mov .g2) rfl rfl ?_
    refine .dpu rfl (.n rfl) (P.nilc .t0) rfl rfl ?_
    refine .dpu rfl (.n rfl) (P.fa .t0 fa_45_1 rfl) rfl rfl ?_
    refine .dpu rfl (.n rfl) (P.fa .g2 fa_36_6 rfl) rfl rfl ?_
    refine .dpu rfl (.n rfl) (P.fa .t0 fa_34_1 rfl) rfl rfl ?_
    refine .dld rfl (.n rfl) (V.ld (v := N a0.Time) .t1 .k0 (.one isAgg3 rfl)) (fun _ h => h) rfl rfl ?_
    refine .dld rfl (.n rfl) (V.ld (v := N a1.Var.Expiry) .t1 .k2 (.one isAgg3 rfl)) (fun _ h => h) rfl rfl ?_
    refine .dpu rfl (.n rfl) (P.bin .t1 .t0 .lss) rfl rfl ?_
    refine .dgo rfl (.n rfl) (OpV.g (OpP.toV (P.asg .t0)) rfl) (.inr fun _ _ _ h => h) fun _ _ => ?_
    refine .dnil ?_
    refine .then ?_
    obtain ⟨o72, hj10, h⟩ := bnd_eq h
    refine .cuto (γ := Unit) h (E1 := fun (y8 : escrow_State) _ => [(4, pt b5 q6)]) (L1 := fun (y8 : escrow_State) _ => [blk b00 45 (escrow_State.cs y8 z00a), lst 76 3 z00a (y8.Locks.map escrow_Lock.cs)]) (R1 := fun (y8 : escrow_State) _ => []) ?_ (fun y8 _ h' => ?_)
    · refine .seq ?_
      refine .reg rfl ?_
      refine .opp (P.mov .g3) rfl ?_
      refine .opp (P.nilc .t0) rfl ?_
      refine .opp (P.fa .t0 fa_45_0 rfl) rfl ?_
      refine .op (V.ld (v := N a0.Side) .t0 .k0 (.one isAgg3 rfl)) rfl ?_
      refine .opp (P.bin .t0 .k .eql) rfl ?_
      refine .nil ?_
      refine .then ?_
      refine .cond .t0 (fun c11 => ?_) (fun c11 => ?_)
      · rw [if_pos c11] at hj10
        obtain ⟨o37, hj14, hj10⟩ := bnd_eq hj10
        refine .cuto (γ := Unit) hj10 (E1 := fun (_ : Unit) _ => [(4, pt b5 q6), (3, pt b1 0), (0, pt b00 0)]) (L1 := fun (_ : Unit) _ => [blk b1 36 (api_Tx.cs a1), blk b00 45 (escrow_State.cs a0 z00a), lst 76 3 z00a (a0.Locks.map escrow_Lock.cs)]) (R1 := fun (_ : Unit) _ => []) ?_ (fun _ _ hj10' => ?_)
        · refine .reg rfl ?_
          refine .opp (P.mov .t0) rfl ?_
          refine .opp (P.not .t0) rfl ?_
          refine .opp (P.mov .t0) rfl ?_
          refine .split .k0 (fun c15 => ?_) (fun c15 => ?_)
          · rw [if_pos c15] at hj14
            refine .gno rfl .g0 rfl rfl ?_
            refine .gno rfl .g0 rfl rfl ?_
            refine .opp (P.pickT .t0 .k) rfl ?_
            rcases pxe_eq hj14 with ⟨e18, hr17, hj14⟩ | ⟨r16, hr17, hj14⟩
            · refine .opg (G.callx call72 (.cons .t0 (.cons .k .nil)) (S_escrow_need true 35 (.er e18) hr17).er .nil .nil ?_) rfl fun _ h_ => h_.elim
              obtain ⟨x19, hx20, rfl⟩ := map_lrt hj14
              obtain rfl := rt_on hj10
              refine .thp ?_
              obtain ⟨x21, hx22, rfl⟩ := map_lrt hx20
              obtain rfl := rt_on h
              refine .thp ?_
              cases hx22
              exact .xer rfl
            · refine .opg (G.call call72 (.cons .t0 (.cons .k .nil)) (S_escrow_need true 35 (.ok r16) hr17).ok .nil .nil (fun _ _ => rfl) (fun _ _ => rfl) rfl) rfl fun _ _ => ?_
              refine .drop .k0 ?_
              refine .nil ?_
              cases hj14
              exact .sty () () (dn_on hj10) (.cons Mm.m0 (.cons Mm.m1 (.cons Mm.m2 .nil))) (.of (.cons .k2 (.cons .k0 (.cons .k0 .nil)))) .nil
          · rw [if_neg (ne_true_of_eq_false c15)] at hj14
            refine .gyes rfl .g0 ?_
            refine .op (V.ld (v := Ag (api_Tx.cs a1)) .g2 .k2 (.agg isAgg36 sizeOf36 rfl rfl)) rfl ?_
            refine .gyes rfl .g1 ?_
            obtain ⟨r23, hr24, hj14⟩ := bnd_eq hj14
            refine .opg (G.call call79 (.cons .t0 (.cons .k .nil)) (S_escrow_signed a1 2 r23 hr24) .nil .nil (fun _ _ => rfl) (fun _ _ => rfl) rfl) rfl fun _ _ => ?_
            refine .opp (P.pickF .t1 .t0) rfl ?_
            rcases pxe_eq hj14 with ⟨e27, hr26, hj14⟩ | ⟨r25, hr26, hj14⟩
            · refine .opg (G.callx call72 (.cons .t0 (.cons .k .nil)) (S_escrow_need r23 35 (.er e27) hr26).er .nil .nil ?_) rfl fun _ h_ => h_.elim
              obtain ⟨x28, hx29, rfl⟩ := map_lrt hj14
              obtain rfl := rt_on hj10
              refine .thp ?_
              obtain ⟨x30, hx31, rfl⟩ := map_lrt hx29
              obtain rfl := rt_on h
              refine .thp ?_
              cases hx31
              exact .xer rfl
            · refine .opg (G.call call72 (.cons .t0 (.cons .k .nil)) (S_escrow_need r23 35 (.ok r25) hr26).ok .nil .nil (fun _ _ => rfl) (fun _ _ => rfl) rfl) rfl fun _ _ => ?_
              refine .drop .k0 ?_
              refine .nil ?_
              cases hj14
              exact .sty () () (dn_on hj10) (.cons Mm.m0 (.cons Mm.m1 (.cons Mm.m2 .nil))) (.of (.cons .k2 (.cons .k0 (.cons .k0 .nil)))) .nil
        · replace hj10 := hj10'
          refine .drawl [blk b1 36 (api_Tx.cs a1), lst 76 3 z00a (a0.Locks.map escrow_Lock.cs)] [] (Ls.of (.cons .k0 (.cons .k1 .nil))) Rs.nil 13 (.on 0 .pu (.on 1 .pu (.on 2 .pu (.on 3 .pu (.on 4 .pu (.on 6 .pu (.on 7 .pu (.on 9 .pu (.on 10 .pu (.on 5 .ld (.on 8 .ld (.on 11 .ld (.on 12 .go .nl))))))))))))) follows_mixed (.thn .bodx) (by kernel_rfl) ?_
          refine .dpu rfl (.n rfl) (P.mov .t2) rfl rfl ?_
          refine .dpu rfl (.n rfl) (P.nilc .t0) rfl rfl ?_
          refine .dpu rfl (.n rfl) (P.fa .t0 fa_45_3 rfl) rfl rfl ?_
          refine .dpu rfl (.n rfl) (P.fa .g2 fa_36_5 rfl) rfl rfl ?_
          refine .dpu rfl (.n rfl) (P.fa .t0 fa_32_2 rfl) rfl rfl ?_
          refine .dpu rfl (.n rfl) (P.fa .g3 fa_36_5 rfl) rfl rfl ?_
          refine .dpu rfl (.n rfl) (P.fa .t0 fa_32_4 rfl) rfl rfl ?_
          refine .dpu rfl (.n rfl) (P.fa .t4 fa_36_6 rfl) rfl rfl ?_
          refine .dpu rfl (.n rfl) (P.fa .t0 fa_34_0 rfl) rfl rfl ?_
          refine .dld rfl (.n rfl) (V.ld (v := N a1.Inv.Router) .t2 .k0 (.one isAgg3 rfl)) (fun _ h => (h.imp (Ls.of (.cons .k0 (.cons .k1 .nil)))).ro Rs.nil) rfl rfl ?_
          refine .dld rfl (.n rfl) (V.ld (v := N a1.Inv.Recv) .t2 .k0 (.one isAgg3 rfl)) (fun _ h => (h.imp (Ls.of (.cons .k0 (.cons .k1 .nil)))).ro Rs.nil) rfl rfl ?_
          refine .dld rfl (.n rfl) (V.ld (v := Ag (api_Wide.cs a1.Var.Amount)) .t2 .k0 (.agg isAgg30 sizeOf30 rfl rfl)) (fun _ h => (h.imp (Ls.of (.cons .k0 (.cons .k1 .nil)))).ro Rs.nil) rfl rfl ?_
          refine .conseq .k1 (q := blk b00 45 ((List.take 66 (escrow_State.cs a0 z00a)) ++ (purse_Book.cs a0.Vault) ++ (List.drop (66 + 64) (escrow_State.cs a0 z00a)))) (fun _ h_ => by exact h_) ?_
          rcases pxe_eq hj10 with ⟨e34, hr33, hj10⟩ | ⟨r32, hr33, hj10⟩
          · refine .dgo rfl (.n rfl) (G.callx call70 (.cons .t3 (.cons .t2 (.cons .t1 (.cons .t0 .nil)))) (S_escrow_put_int b00 66 45 (List.take 66 (escrow_State.cs a0 z00a)) (List.drop (66 + 64) (escrow_State.cs a0 z00a)) (by rfl) a0.Vault a1.Inv.Router a1.Inv.Recv a1.Var.Amount (.er e34) hr33).er (.cons .k0 .nil) .nil ?_) (.inr fun _ _ h_ _ => h_.elim) fun _ h_ => h_.elim
            obtain ⟨x35, hx36, rfl⟩ := map_lrt hj10
            obtain rfl := rt_on h
            refine .thp ?_
            cases hx36
            exact .xer rfl
          · refine .dgo rfl (.n rfl) (G.call call70 (.cons .t3 (.cons .t2 (.cons .t1 (.cons .t0 .nil)))) (S_escrow_put_int b00 66 45 (List.take 66 (escrow_State.cs a0 z00a)) (List.drop (66 + 64) (escrow_State.cs a0 z00a)) (by rfl) a0.Vault a1.Inv.Router a1.Inv.Recv a1.Var.Amount (.ok r32) hr33).ok (.cons .k0 .nil) .nil (fun _ _ => rfl) (fun _ _ => rfl) rfl) (.inr fun _ _ _ h => (h.imp (Ls.of (.cons .k1 (.cons .k1 .nil)))).ro Rs.nil) fun _ _ => ?_
            refine .conseq .k0 (q := blk b00 45 (escrow_State.cs ⟨a0.Side, a0.Time, a0.Purse, r32, a0.Nonces, a0.Held, a0.Burnt, a0.Locks⟩ z00a)) (fun _ h_ => by exact h_) ?_
            refine .drop .k0 ?_
            refine .dnil ?_
            cases hj10
            exact .sty ⟨a0.Side, a0.Time, a0.Purse, r32, a0.Nonces, a0.Held, a0.Burnt, a0.Locks⟩ () (dn_on h) (.cons Mm.m0 .nil) (.of (.cons .k0 (.cons .k1 .nil))) .nil
      · rw [if_neg (ne_true_of_eq_false c11)] at hj10
        obtain ⟨o66, hj40, hj10⟩ := bnd_eq hj10
        refine .cuto (γ := Unit) hj10 (E1 := fun (_ : Unit) _ => [(4, pt b5 q6), (3, pt b1 0), (0, pt b00 0)]) (L1 := fun (_ : Unit) _ => [blk b1 36 (api_Tx.cs a1), blk b00 45 (escrow_State.cs a0 z00a), lst 76 3 z00a (a0.Locks.map escrow_Lock.cs)]) (R1 := fun (_ : Unit) _ => []) ?_ (fun _ _ hj10' => ?_)
        · refine .reg rfl ?_
          refine .opp (P.mov .t0) rfl ?_
          refine .opp (P.not .t0) rfl ?_
          refine .opp (P.mov .t0) rfl ?_
          refine .split .k0 (fun c41 => ?_) (fun c41 => ?_)
          · rw [if_pos c41] at hj40
            refine .gno rfl .g0 rfl rfl ?_
            refine .gno rfl .g0 rfl rfl ?_
            refine .gno rfl .g0 rfl rfl ?_
            refine .gno rfl .g0 rfl rfl ?_
            refine .gno rfl .g0 rfl rfl ?_
            refine .gno rfl .g0 rfl rfl ?_
            refine .opp (P.pickT .t0 .k) rfl ?_
            rcases pxe_eq hj40 with ⟨e44, hr43, hj40⟩ | ⟨r42, hr43, hj40⟩
            · refine .opg (G.callx call72 (.cons .t0 (.cons .k .nil)) (S_escrow_need true 37 (.er e44) hr43).er .nil .nil ?_) rfl fun _ h_ => h_.elim
              obtain ⟨x45, hx46, rfl⟩ := map_lrt hj40
              obtain rfl := rt_on hj10
              refine .thp ?_
              obtain ⟨x47, hx48, rfl⟩ := map_lrt hx46
              obtain rfl := rt_on h
              refine .thp ?_
              cases hx48
              exact .xer rfl
            · refine .opg (G.call call72 (.cons .t0 (.cons .k .nil)) (S_escrow_need true 37 (.ok r42) hr43).ok .nil .nil (fun _ _ => rfl) (fun _ _ => rfl) rfl) rfl fun _ _ => ?_
              refine .drop .k0 ?_
              refine .nil ?_
              cases hj40
              exact .sty () () (dn_on hj10) (.cons Mm.m0 (.cons Mm.m1 (.cons Mm.m2 .nil))) (.of (.cons .k2 (.cons .k0 (.cons .k0 .nil)))) .nil
          · rw [if_neg (ne_true_of_eq_false c41)] at hj40
            refine .gyes rfl .g0 ?_
            refine .opp (P.fa .g2 fa_36_0 rfl) rfl ?_
            refine .gyes rfl .g1 ?_
            refine .op (V.ld (v := N a1.From) .t0 .k2 (.one isAgg3 rfl)) rfl ?_
            refine .gyes rfl .g1 ?_
            refine .opp (P.fa .g3 fa_36_5 rfl) rfl ?_
            refine .gyes rfl .g2 ?_
            refine .opp (P.fa .t0 fa_32_2 rfl) rfl ?_
            refine .gyes rfl .g2 ?_
            refine .op (V.ld (v := N a1.Inv.Router) .t0 .k2 (.one isAgg3 rfl)) rfl ?_
            refine .gyes rfl .g2 ?_
            refine .opp (P.bin .t1 .t0 .eql) rfl ?_
            refine .opp (P.pickF .t1 .t0) rfl ?_
            rcases pxe_eq hj40 with ⟨e51, hr50, hj40⟩ | ⟨r49, hr50, hj40⟩
            · refine .opg (G.callx call72 (.cons .t0 (.cons .k .nil)) (S_escrow_need (decide (a1.From = a1.Inv.Router)) 37 (.er e51) hr50).er .nil .nil ?_) rfl fun _ h_ => h_.elim
              obtain ⟨x52, hx53, rfl⟩ := map_lrt hj40
              obtain rfl := rt_on hj10
              refine .thp ?_
              obtain ⟨x54, hx55, rfl⟩ := map_lrt hx53
              obtain rfl := rt_on h
              refine .thp ?_
              cases hx55
              exact .xer rfl
            · refine .opg (G.call call72 (.cons .t0 (.cons .k .nil)) (S_escrow_need (decide (a1.From = a1.Inv.Router)) 37 (.ok r49) hr50).ok .nil .nil (fun _ _ => rfl) (fun _ _ => rfl) rfl) rfl fun _ _ => ?_
              refine .drop .k0 ?_
              refine .nil ?_
              cases hj40
              exact .sty () () (dn_on hj10) (.cons Mm.m0 (.cons Mm.m1 (.cons Mm.m2 .nil))) (.of (.cons .k2 (.cons .k0 (.cons .k0 .nil)))) .nil
        · replace hj10 := hj10'
          refine .seq ?_
          refine .drawl [blk b1 36 (api_Tx.cs a1), lst 76 3 z00a (a0.Locks.map escrow_Lock.cs)] [] (Ls.of (.cons .k0 (.cons .k1 .nil))) Rs.nil 13 (.on 0 .pu (.on 1 .pu (.on 2 .pu (.on 3 .pu (.on 4 .pu (.on 6 .pu (.on 7 .pu (.on 9 .pu (.on 10 .pu (.on 5 .ld (.on 8 .ld (.on 11 .ld (.on 12 .go .nl))))))))))))) follows_mixed (.thn (.thn .bodx)) (by kernel_rfl) ?_
          refine .dpu rfl (.n rfl) (P.mov .g2) rfl rfl ?_
          refine .dpu rfl (.n rfl) (P.nilc .t0) rfl rfl ?_
          refine .dpu rfl (.n rfl) (P.fa .t0 fa_45_2 rfl) rfl rfl ?_
          refine .dpu rfl (.n rfl) (P.fa .g2 fa_36_5 rfl) rfl rfl ?_
          refine .dpu rfl (.n rfl) (P.fa .t0 fa_32_0 rfl) rfl rfl ?_
          refine .dpu rfl (.n rfl) (P.fa .g3 fa_36_5 rfl) rfl rfl ?_
          refine .dpu rfl (.n rfl) (P.fa .t0 fa_32_3 rfl) rfl rfl ?_
          refine .dpu rfl (.n rfl) (P.fa .g4 fa_36_6 rfl) rfl rfl ?_
          refine .dpu rfl (.n rfl) (P.fa .t0 fa_34_0 rfl) rfl rfl ?_
          refine .dld rfl (.n rfl) (V.ld (v := N a1.Inv.User) .t2 .k0 (.one isAgg3 rfl)) (fun _ h => (h.imp (Ls.of (.cons .k0 (.cons .k1 .nil)))).ro Rs.nil) rfl rfl ?_
          refine .dld rfl (.n rfl) (V.ld (v := N a1.Inv.Send) .t2 .k0 (.one isAgg3 rfl)) (fun _ h => (h.imp (Ls.of (.cons .k0 (.cons .k1 .nil)))).ro Rs.nil) rfl rfl ?_
          refine .dld rfl (.n rfl) (V.ld (v := Ag (api_Wide.cs a1.Var.Amount)) .t2 .k0 (.agg isAgg30 sizeOf30 rfl rfl)) (fun _ h => (h.imp (Ls.of (.cons .k0 (.cons .k1 .nil)))).ro Rs.nil) rfl rfl ?_
          refine .conseq .k1 (q := blk b00 45 ((List.take 2 (escrow_State.cs a0 z00a)) ++ (purse_Book.cs a0.Purse) ++ (List.drop (2 + 64) (escrow_State.cs a0 z00a)))) (fun _ h_ => by exact h_) ?_
          rcases pxe_eq hj10 with ⟨e58, hr57, hj10⟩ | ⟨r56, hr57, hj10⟩
          · refine .dgo rfl (.n rfl) (G.callx call70 (.cons .t3 (.cons .t2 (.cons .t1 (.cons .t0 .nil)))) (S_escrow_put_int b00 2 45 (List.take 2 (escrow_State.cs a0 z00a)) (List.drop (2 + 64) (escrow_State.cs a0 z00a)) (by rfl) a0.Purse a1.Inv.User a1.Inv.Send a1.Var.Amount (.er e58) hr57).er (.cons .k0 .nil) .nil ?_) (.inr fun _ _ h_ _ => h_.elim) fun _ h_ => h_.elim
            refine .thp ?_
            obtain ⟨x59, hx60, rfl⟩ := map_lrt hj10
            obtain rfl := rt_on h
            refine .thp ?_
            cases hx60
            exact .xer rfl
          · refine .dgo rfl (.n rfl) (G.call call70 (.cons .t3 (.cons .t2 (.cons .t1 (.cons .t0 .nil)))) (S_escrow_put_int b00 2 45 (List.take 2 (escrow_State.cs a0 z00a)) (List.drop (2 + 64) (escrow_State.cs a0 z00a)) (by rfl) a0.Purse a1.Inv.User a1.Inv.Send a1.Var.Amount (.ok r56) hr57).ok (.cons .k0 .nil) .nil (fun _ _ => rfl) (fun _ _ => rfl) rfl) (.inr fun _ _ _ h => (h.imp (Ls.of (.cons .k1 (.cons .k1 .nil)))).ro Rs.nil) fun _ _ => ?_
            refine .conseq .k0 (q := blk b00 45 (escrow_State.cs ⟨a0.Side, a0.Time, r56, a0.Vault, a0.Nonces, a0.Held, a0.Burnt, a0.Locks⟩ z00a)) (fun _ h_ => by exact h_) ?_
            refine .drop .k0 ?_
            refine .dnil ?_
            refine .then ?_
            refine .reg rfl ?_
            refine .opp (P.mov .t2) rfl ?_
            refine .opp (P.fa .g2 fa_36_5 rfl) rfl ?_
            refine .opp (P.fa .t0 fa_32_3 rfl) rfl ?_
            refine .op (V.ld (v := N a1.Inv.Send) .t0 .k1 (.one isAgg3 rfl)) rfl ?_
            refine .opp (P.fa .t3 fa_36_6 rfl) rfl ?_
            refine .opp (P.fa .t0 fa_34_0 rfl) rfl ?_
            refine .op (V.ld (v := Ag (api_Wide.cs a1.Var.Amount)) .t0 .k1 (.agg isAgg30 sizeOf30 rfl rfl)) rfl ?_
            rcases pxe_eq hj10 with ⟨e63, hr62, hj10⟩ | ⟨r61, hr62, hj10⟩
            · refine .opg (G.callx call74 (.cons .t2 (.cons .t1 (.cons .t0 .nil))) (S_escrow_State_free b00 (⟨a0.Side, a0.Time, r56, a0.Vault, a0.Nonces, a0.Held, a0.Burnt, a0.Locks⟩ : escrow_State) z00a a1.Inv.Send a1.Var.Amount (.er e63) hr62).er (.cons .k0 (.cons .k1 .nil)) .nil ?_) rfl fun _ h_ => h_.elim
              obtain ⟨x64, hx65, rfl⟩ := map_lrt hj10
              obtain rfl := rt_on h
              refine .thp ?_
              cases hx65
              exact .xer rfl
            · refine .opg (G.call call74 (.cons .t2 (.cons .t1 (.cons .t0 .nil))) (S_escrow_State_free b00 (⟨a0.Side, a0.Time, r56, a0.Vault, a0.Nonces, a0.Held, a0.Burnt, a0.Locks⟩ : escrow_State) z00a a1.Inv.Send a1.Var.Amount (.ok r61) hr62).ok (.cons .k0 (.cons .k1 .nil)) .nil (fun _ _ => rfl) (fun _ _ => rfl) rfl) rfl fun _ _ => ?_
              refine .drop .k0 ?_
              refine .nil ?_
              cases hj10
              exact .sty r61 () (dn_on h) (.cons Mm.m0 .nil) (.of (.cons .k0 (.cons .k0 .nil))) .nil
    · replace h := h'
      refine .reg rfl ?_
      refine .opp (P.mov .t0) rfl ?_
      refine .opp (P.nilc .t0) rfl ?_
      refine .opp (P.fa (off' := q6 + 2) .t0 fa_76_2 rfl) rfl ?_
      obtain ⟨x67, hx68, h⟩ := bnd_eq h
      obtain ⟨i69, hi70, hx68⟩ := at_eq hx68
      have hx71 : y8.Locks[r2.1]? = some x67 := by have hk_ : r2.1 = i69 := Int.ofNat.inj hi70; rw [hk_]; exact hx68
      refine .opg (G.stx (off := q6) (k := 2) (cs' := (escrow_Lock.cs ⟨x67.Key, x67.Digest, 3⟩)) .k .t0 (hq7.1) .k1 (map_get hx71) (.mk sizeOf3 rfl rfl rfl rfl)) rfl fun _ _ => ?_
      refine .conseq .k0 (q := lst 76 3 z00a ((y8.Locks.set r2.1 (⟨x67.Key, x67.Digest, 3⟩ : escrow_Lock)).map escrow_Lock.cs)) (fun _ h_ => by simpa [List.map_set] using h_) ?_
      refine .nil ?_
      cases h
      refine .xokn ?_
      exact .finwn () (.r0 rfl) trivial (Ls.of (.cons .k1 (.cons .k0 .nil))) .nil
attribute [irreducible] escrow_State_cancel
noncomputable def escrow_State_do (a0 : escrow_State) (a1 : api_Tx) : Option (Px (escrow_State)) :=
  if (decide (a1.Kind = 1)) = true then (Option.bind (purse_Book_Move a0.Purse a1.From a1.Inv.To a1.Asset a1.Amount) fun r3 => pxe (escrow_check r3.2) (fun e8 => some (.er e8)) fun r6 => some ((.ok (⟨a0.Side, a0.Time, r3.1, a0.Vault, a0.Nonces, a0.Held, a0.Burnt, a0.Locks⟩ : escrow_State)))) else (if (decide (a1.Kind = 2)) = true then (pxe (escrow_State_store a0 a1) (fun e12 => some (.er e12)) fun r10 => some (.ok r10)) else (if (decide (a1.Kind = 3)) = true then (pxe (escrow_State_draw a0 a1) (fun e16 => some (.er e16)) fun r14 => some (.ok r14)) else (if (decide (a1.Kind = 4)) = true then (pxe (escrow_State_prepare a0 a1) (fun e20 => some (.er e20)) fun r18 => some (.ok r18)) else (if (decide (a1.Kind = 5)) = true then (pxe (escrow_State_fulfil a0 a1) (fun e25 => some (.er e25)) fun r23 => some (.ok r23)) else (if (decide (a1.Kind = 6)) = true then (pxe (escrow_State_cancel a0 a1) (fun e29 => some (.er e29)) fun r27 => some (.ok r27)) else (some (.ok a0)))))))
set_option maxRecDepth 20000 in
set_option maxHeartbeats 1000000 in
theorem S_escrow_State_do (b00 : Nat) (a0 : escrow_State) (z00a : Value) (a1 : api_Tx) (r : Px (escrow_State)) (h : escrow_State_do a0 a1 = some r) :
    SpecX Tryz.prog 57 [pt b00 0, Ag (api_Tx.cs a1)] [blk b00 45 (escrow_State.cs a0 z00a), lst 76 3 z00a (a0.Locks.map escrow_Lock.cs)] [] (fun (r : escrow_State) (z : Value) => True) mustCh r (fun r z => Tu []) (fun r z M => blk b00 45 (escrow_State.cs r z) :: lst 76 3 z (r.Locks.map escrow_Lock.cs) ::  M) (fun r z M =>  M) := by
  refine .of func57 rfl ntmps57 rfl fun w0 D0 G0 => ?_
  unfold escrow_State_do at h
  refine .seq ?_
  refine .reg rfl ?_
  refine .opx (X.box (cs := (api_Tx.cs a1)) .t1 rfl) rfl fun b1 => ?_
  refine .nil ?_
  refine .then ?_
  refine .seq ?_
  refine .reg rfl ?_
  refine .opp (P.fa .g0 fa_36_2 rfl) rfl ?_
  refine .op (V.ld (v := N a1.Kind) .t0 .k0 (.one isAgg3 rfl)) rfl ?_
  refine .nil ?_
  refine .then ?_
  refine .block ?_
  refine .seq ?_
  refine .reg rfl ?_
  refine .opp (P.bin .g0 .k .eql) rfl ?_
  refine .opp (P.asg .t0) rfl ?_
  refine .nil ?_
  refine .then ?_
  refine .cond .t0 (fun c2 => ?_) (fun c2 => ?_)
  · rw [if_pos c2] at h
    refine .seq ?_
    obtain ⟨r3, hr4, h⟩ := bnd_eq h
    refine .dcut (γ := Nat) (φ := fun _ => True) (E1 := fun x_ => [(5, N r3.2), (4, pt x_ 0), (0, pt b00 0)]) (L1 := fun x_ => [blk x_ 41 (purse_Book.cs r3.1), blk b1 36 (api_Tx.cs a1), blk b00 45 (escrow_State.cs a0 z00a), lst 76 3 z00a (a0.Locks.map escrow_Lock.cs)]) (R1 := fun x_ => []) ?_ (fun b5 _ => ?_)
    · refine .draw 20 (.on 0 .pu (.on 1 .pu (.on 2 .pu (.on 4 .pu (.on 6 .pu (.on 7 .pu (.on 9 .pu (.on 11 .pu (.on 3 .ld (.on 5 .ld (.on 8 .ld (.on 10 .ld (.on 12 .ld (.fk 13 17 (.on 14 .pu (.on 15 .pu (.on 16 .pu (.on 17 .go (.on 18 .go (.on 19 .go .nl)))))) (.on 13 .go (.on 14 .pu (.on 15 .pu (.on 16 .pu (.on 18 .go (.on 19 .go .nl)))))))))))))))))))) follows_mixed (.thn (.thn (.inb .bodx))) (by kernel_rfl) ?_
      refine .dpu rfl (.n rfl) (P.mov .g2) rfl rfl ?_
      refine .dpu rfl (.n rfl) (P.nilc .t0) rfl rfl ?_
      refine .dpu rfl (.n rfl) (P.fa .t0 fa_45_2 rfl) rfl rfl ?_
      refine .dpu rfl (.n rfl) (P.fa .g2 fa_36_0 rfl) rfl rfl ?_
      refine .dpu rfl (.n rfl) (P.fa .g3 fa_36_5 rfl) rfl rfl ?_
      refine .dpu rfl (.n rfl) (P.fa .t0 fa_32_5 rfl) rfl rfl ?_
      refine .dpu rfl (.n rfl) (P.fa .g4 fa_36_3 rfl) rfl rfl ?_
      refine .dpu rfl (.n rfl) (P.fa .t5 fa_36_4 rfl) rfl rfl ?_
      refine .dld rfl (.n rfl) (V.ld (v := Ag (purse_Book.cs a0.Purse)) .t4 .k1 (.agg isAgg41 sizeOf41 rfl rfl)) (fun _ h => h) rfl rfl ?_
      refine .dld rfl (.n rfl) (V.ld (v := N a1.From) .t4 .k0 (.one isAgg3 rfl)) (fun _ h => h) rfl rfl ?_
      refine .dld rfl (.n rfl) (V.ld (v := N a1.Inv.To) .t4 .k0 (.one isAgg3 rfl)) (fun _ h => h) rfl rfl ?_
      refine .dld rfl (.n rfl) (V.ld (v := N a1.Asset) .t4 .k0 (.one isAgg3 rfl)) (fun _ h => h) rfl rfl ?_
      refine .dld rfl (.n rfl) (V.ld (v := Ag (api_Wide.cs a1.Amount)) .t4 .k0 (.agg isAgg30 sizeOf30 rfl rfl)) (fun _ h => h) rfl rfl ?_
      refine .dfk ?_ ?_
      · refine .dgo rfl (.n rfl) (G.call call61 (.cons .t4 (.cons .t3 (.cons .t2 (.cons .t1 (.cons .t0 .nil))))) (S_purse_Book_Move a0.Purse a1.From a1.Inv.To a1.Asset a1.Amount r3 hr4) .nil .nil (fun _ _ => rfl) (fun _ _ => rfl) rfl) (.inr fun _ _ _ h => h) fun _ _ => ?_
        refine .dpu rfl (.n rfl) (P.mov .t0) rfl rfl ?_
        refine .dpu rfl (.n rfl) (P.ext (v := Ag (purse_Book.cs r3.1)) .g0 rfl) rfl rfl ?_
        refine .dpu rfl (.n rfl) (P.ext (v := N r3.2) .t1 rfl) rfl rfl ?_
        refine .dgo rfl (.n rfl) (OpX.g (X.alc (cs := (purse_Book.cs ⟨⟨⟨0, 0, 0, 0⟩, ⟨0, 0, 0, 0⟩⟩, ⟨⟨0, 0, 0, 0⟩, ⟨0, 0, 0, 0⟩⟩, ⟨⟨0, 0, 0, 0⟩, ⟨0, 0, 0, 0⟩⟩, ⟨⟨0, 0, 0, 0⟩, ⟨0, 0, 0, 0⟩⟩, ⟨⟨0, 0, 0, 0⟩, ⟨0, 0, 0, 0⟩⟩, ⟨⟨0, 0, 0, 0⟩, ⟨0, 0, 0, 0⟩⟩, ⟨⟨0, 0, 0, 0⟩, ⟨0, 0, 0, 0⟩⟩, ⟨⟨0, 0, 0, 0⟩, ⟨0, 0, 0, 0⟩⟩⟩)) zeroValue41 rfl) rfl) (.inr fun _ _ _ h => (h.imp (Ls.of (.cons .k1 (.cons .k1 (.cons .k1 .nil))))).ro Rs.nil) fun b5 _ => ?_
        refine .dgo rfl (.n rfl) (G.str .t2 .g0 .k0 (.mk (cs' := (purse_Book.cs r3.1)) sizeOf41 rfl rfl rfl rfl)) (.inr fun _ _ _ h => (h.imp (Ls.of (.cons .k1 (.cons .k1 (.cons .k1 .nil))))).ro Rs.nil) fun _ _ => ?_
        refine .dgo rfl (.n rfl) (OpV.g (OpP.toV (P.asg .t1)) rfl) (.inr fun _ _ _ h => (h.imp (Ls.of (.cons .k1 (.cons .k1 (.cons .k1 .nil))))).ro Rs.nil) fun _ _ => ?_
        refine .dnil ?_
        exact .dst b5 trivial (.cons Mm.m0 (.cons Mm.m1 (.cons Mm.m3 .nil))) (Ls.of (.cons .k0 (.cons .k0 (.cons .k0 (.cons .k0 .nil))))) .nil
      · refine .dgo rfl (.n rfl) (OpX.g (X.alc (cs := (purse_Book.cs ⟨⟨⟨0, 0, 0, 0⟩, ⟨0, 0, 0, 0⟩⟩, ⟨⟨0, 0, 0, 0⟩, ⟨0, 0, 0, 0⟩⟩, ⟨⟨0, 0, 0, 0⟩, ⟨0, 0, 0, 0⟩⟩, ⟨⟨0, 0, 0, 0⟩, ⟨0, 0, 0, 0⟩⟩, ⟨⟨0, 0, 0, 0⟩, ⟨0, 0, 0, 0⟩⟩, ⟨⟨0, 0, 0, 0⟩, ⟨0, 0, 0, 0⟩⟩, ⟨⟨0, 0, 0, 0⟩, ⟨0, 0, 0, 0⟩⟩, ⟨⟨0, 0, 0, 0⟩, ⟨0, 0, 0, 0⟩⟩⟩)) zeroValue41 rfl) rfl) (.inr fun _ _ _ h => (h.imp (Ls.of (.cons .k1 (.cons .k1 (.cons .k1 .nil))))).ro Rs.nil) fun b5 _ => ?_
        refine .dgo rfl (.n rfl) (G.call call61 (.cons .t5 (.cons .t4 (.cons .t3 (.cons .t2 (.cons .t1 .nil))))) (S_purse_Book_Move a0.Purse a1.From a1.Inv.To a1.Asset a1.Amount r3 hr4) .nil .nil (fun _ _ => rfl) (fun _ _ => rfl) rfl) (.inr fun _ _ _ h => (h.imp (Ls.of (.cons .k1 (.cons .k1 (.cons .k1 .nil))))).ro Rs.nil) fun _ _ => ?_
        refine .dpu rfl (.n rfl) (P.mov .t0) rfl rfl ?_
        refine .dpu rfl (.n rfl) (P.ext (v := Ag (purse_Book.cs r3.1)) .g0 rfl) rfl rfl ?_
        refine .dpu rfl (.n rfl) (P.ext (v := N r3.2) .t1 rfl) rfl rfl ?_
        refine .dgo rfl (.n rfl) (G.str .t1 .g1 .k0 (.mk (cs' := (purse_Book.cs r3.1)) sizeOf41 rfl rfl rfl rfl)) (.inr fun _ _ _ h => (h.imp (Ls.of (.cons .k1 (.cons .k1 (.cons .k1 .nil))))).ro Rs.nil) fun _ _ => ?_
        refine .dgo rfl (.n rfl) (OpV.g (OpP.toV (P.asg .t0)) rfl) (.inr fun _ _ _ h => (h.imp (Ls.of (.cons .k1 (.cons .k1 (.cons .k1 .nil))))).ro Rs.nil) fun _ _ => ?_
        refine .dnil ?_
        exact .dst b5 trivial (.cons Mm.m0 (.cons Mm.m1 (.cons Mm.m3 .nil))) (Ls.of (.cons .k0 (.cons .k0 (.cons .k0 (.cons .k0 .nil))))) .nil
    · refine .then ?_
      refine .seq ?_
      refine .reg rfl ?_
      refine .opp (P.mov .t0) rfl ?_
      rcases pxe_eq h with ⟨e8, hr7, h⟩ | ⟨r6, hr7, h⟩
      · refine .opg (G.callx call62 (.cons .t0 .nil) (S_escrow_check r3.2 (.er e8) hr7).er .nil .nil ?_) rfl fun _ h_ => h_.elim
        refine .thp ?_
        refine .inp ?_
        cases h
        exact .xer rfl
      · refine .opg (G.call call62 (.cons .t0 .nil) (S_escrow_check r3.2 (.ok r6) hr7).ok .nil .nil (fun _ _ => rfl) (fun _ _ => rfl) rfl) rfl fun _ _ => ?_
        refine .drop .k0 ?_
        refine .nil ?_
        refine .then ?_
        refine .reg rfl ?_
        refine .opp (P.mov .t1) rfl ?_
        refine .op (V.ld (v := Ag (purse_Book.cs r3.1)) .t1 .k0 (.agg isAgg41 sizeOf41 rfl rfl)) rfl ?_
        refine .opp (P.nilc .t1) rfl ?_
        refine .opp (P.fa .t0 fa_45_2 rfl) rfl ?_
        refine .opg (G.str .t1 .t0 .k2 (.mk (cs' := (escrow_State.cs ⟨a0.Side, a0.Time, r3.1, a0.Vault, a0.Nonces, a0.Held, a0.Burnt, a0.Locks⟩ z00a)) sizeOf41 rfl rfl rfl rfl)) rfl fun _ _ => ?_
        refine .nil ?_
        refine .inn ?_
        cases h
        refine .xokn ?_
        exact .finwn z00a (.r0 rfl) trivial (Ls.of (.cons .k0 (.cons .k2 .nil))) .nil
  · rw [if_neg (ne_true_of_eq_false c2)] at h
    refine .seq ?_
    refine .reg rfl ?_
    refine .opp (P.bin .g0 .k .eql) rfl ?_
    refine .opp (P.asg .t0) rfl ?_
    refine .nil ?_
    refine .then ?_
    refine .cond .t0 (fun c9 => ?_) (fun c9 => ?_)
    · rw [if_pos c9] at h
      refine .reg rfl ?_
      refine .opp (P.mov .t2) rfl ?_
      refine .op (V.ld (v := Ag (api_Tx.cs a1)) .t2 .k0 (.agg isAgg36 sizeOf36 rfl rfl)) rfl ?_
      rcases pxe_eq h with ⟨e12, hr11, h⟩ | ⟨r10, hr11, h⟩
      · refine .opg (G.callx call63 (.cons .t1 (.cons .t0 .nil)) (S_escrow_State_store b00 a0 z00a a1 (.er e12) hr11).er (.cons .k1 (.cons .k1 .nil)) .nil ?_) rfl fun _ h_ => h_.elim
        refine .inp ?_
        cases h
        exact .xer rfl
      · refine .opg (G.call call63 (.cons .t1 (.cons .t0 .nil)) (S_escrow_State_store b00 a0 z00a a1 (.ok r10) hr11).ok (.cons .k1 (.cons .k1 .nil)) .nil (fun _ _ => rfl) (fun _ _ => rfl) rfl) rfl fun _ _ => ?_
        refine .drop .k0 ?_
        refine .nil ?_
        refine .inn ?_
        cases h
        refine .xokn ?_
        exact .finwn z00a (.r0 rfl) trivial (Ls.of (.cons .k0 (.cons .k0 .nil))) .nil
    · rw [if_neg (ne_true_of_eq_false c9)] at h
      refine .seq ?_
      refine .reg rfl ?_
      refine .opp (P.bin .g0 .k .eql) rfl ?_
      refine .opp (P.asg .t0) rfl ?_
      refine .nil ?_
      refine .then ?_
      refine .cond .t0 (fun c13 => ?_) (fun c13 => ?_)
      · rw [if_pos c13] at h
        refine .reg rfl ?_
        refine .opp (P.mov .t2) rfl ?_
        refine .op (V.ld (v := Ag (api_Tx.cs a1)) .t2 .k0 (.agg isAgg36 sizeOf36 rfl rfl)) rfl ?_
        rcases pxe_eq h with ⟨e16, hr15, h⟩ | ⟨r14, hr15, h⟩
        · refine .opg (G.callx call64 (.cons .t1 (.cons .t0 .nil)) (S_escrow_State_draw b00 a0 z00a a1 (.er e16) hr15).er (.cons .k1 (.cons .k1 .nil)) .nil ?_) rfl fun _ h_ => h_.elim
          refine .inp ?_
          cases h
          exact .xer rfl
        · refine .opg (G.call call64 (.cons .t1 (.cons .t0 .nil)) (S_escrow_State_draw b00 a0 z00a a1 (.ok r14) hr15).ok (.cons .k1 (.cons .k1 .nil)) .nil (fun _ _ => rfl) (fun _ _ => rfl) rfl) rfl fun _ _ => ?_
          refine .drop .k0 ?_
          refine .nil ?_
          refine .inn ?_
          cases h
          refine .xokn ?_
          exact .finwn z00a (.r0 rfl) trivial (Ls.of (.cons .k0 (.cons .k0 .nil))) .nil
      · rw [if_neg (ne_true_of_eq_false c13)] at h
        refine .seq ?_
        refine .reg rfl ?_
        refine .opp (P.bin .g0 .k .eql) rfl ?_
        refine .opp (P.asg .t0) rfl ?_
        refine .nil ?_
        refine .then ?_
        refine .cond .t0 (fun c17 => ?_) (fun c17 => ?_)
        · rw [if_pos c17] at h
          refine .reg rfl ?_
          refine .opp (P.mov .t2) rfl ?_
          refine .op (V.ld (v := Ag (api_Tx.cs a1)) .t2 .k0 (.agg isAgg36 sizeOf36 rfl rfl)) rfl ?_
          rcases pxe_eq h with ⟨e20, hr19, h⟩ | ⟨r18, hr19, h⟩
          · refine .opg (G.callx call65 (.cons .t1 (.cons .t0 .nil)) (S_escrow_State_prepare b00 a0 z00a a1 (.er e20) hr19).er (.cons .k1 (.cons .k1 .nil)) .nil ?_) rfl fun _ h_ => h_.elim
            refine .inp ?_
            cases h
            exact .xer rfl
          · refine .opg (G.call call65 (.cons .t1 (.cons .t0 .nil)) (S_escrow_State_prepare b00 a0 z00a a1 (.ok r18) hr19).ok (.cons .k1 (.cons .k1 .nil)) .nil (fun _ _ => rfl) (fun _ _ => rfl) rfl) rfl fun u21 _ => ?_
            refine .drop .k0 ?_
            refine .nil ?_
            refine .inn ?_
            cases h
            refine .xokn ?_
            exact .finwn u21 (.r0 rfl) trivial (Ls.of (.cons .k0 (.cons .k0 .nil))) .nil
        · rw [if_neg (ne_true_of_eq_false c17)] at h
          refine .seq ?_
          refine .reg rfl ?_
          refine .opp (P.bin .g0 .k .eql) rfl ?_
          refine .opp (P.asg .t0) rfl ?_
          refine .nil ?_
          refine .then ?_
          refine .cond .t0 (fun c22 => ?_) (fun c22 => ?_)
          · rw [if_pos c22] at h
            refine .reg rfl ?_
            refine .opp (P.mov .t2) rfl ?_
            refine .op (V.ld (v := Ag (api_Tx.cs a1)) .t2 .k0 (.agg isAgg36 sizeOf36 rfl rfl)) rfl ?_
            rcases pxe_eq h with ⟨e25, hr24, h⟩ | ⟨r23, hr24, h⟩
            · refine .opg (G.callx call66 (.cons .t1 (.cons .t0 .nil)) (S_escrow_State_fulfil b00 a0 z00a a1 (.er e25) hr24).er (.cons .k1 (.cons .k1 .nil)) .nil ?_) rfl fun _ h_ => h_.elim
              refine .inp ?_
              cases h
              exact .xer rfl
            · refine .opg (G.call call66 (.cons .t1 (.cons .t0 .nil)) (S_escrow_State_fulfil b00 a0 z00a a1 (.ok r23) hr24).ok (.cons .k1 (.cons .k1 .nil)) .nil (fun _ _ => rfl) (fun _ _ => rfl) rfl) rfl fun _ _ => ?_
              refine .drop .k0 ?_
              refine .nil ?_
              refine .inn ?_
              cases h
              refine .xokn ?_
              exact .finwn z00a (.r0 rfl) trivial (Ls.of (.cons .k0 (.cons .k0 .nil))) .nil
          · rw [if_neg (ne_true_of_eq_false c22)] at h
            refine .seq ?_
            refine .reg rfl ?_
            refine .opp (P.bin .t0 .k .eql) rfl ?_
            refine .opp (P.asg .t0) rfl ?_
            refine .nil ?_
            refine .then ?_
            refine .cond .t0 (fun c26 => ?_) (fun c26 => ?_)
            · rw [if_pos c26] at h
              refine .reg rfl ?_
              refine .opp (P.mov .t1) rfl ?_
              refine .op (V.ld (v := Ag (api_Tx.cs a1)) .t1 .k0 (.agg isAgg36 sizeOf36 rfl rfl)) rfl ?_
              rcases pxe_eq h with ⟨e29, hr28, h⟩ | ⟨r27, hr28, h⟩
              · refine .opg (G.callx call67 (.cons .t1 (.cons .t0 .nil)) (S_escrow_State_cancel b00 a0 z00a a1 (.er e29) hr28).er (.cons .k1 (.cons .k1 .nil)) .nil ?_) rfl fun _ h_ => h_.elim
                refine .inp ?_
                cases h
                exact .xer rfl
              · refine .opg (G.call call67 (.cons .t1 (.cons .t0 .nil)) (S_escrow_State_cancel b00 a0 z00a a1 (.ok r27) hr28).ok (.cons .k1 (.cons .k1 .nil)) .nil (fun _ _ => rfl) (fun _ _ => rfl) rfl) rfl fun _ _ => ?_
                refine .drop .k0 ?_
                refine .nil ?_
                refine .inn ?_
                cases h
                refine .xokn ?_
                exact .finwn z00a (.r0 rfl) trivial (Ls.of (.cons .k0 (.cons .k0 .nil))) .nil
            · rw [if_neg (ne_true_of_eq_false c26)] at h
              refine .skip ?_
              refine .inn ?_
              cases h
              refine .xokn ?_
              exact .finwn z00a (.r0 rfl) trivial (Ls.of (.cons .k1 (.cons .k1 .nil))) .nil
attribute [irreducible] escrow_State_do
noncomputable def escrow_State_try (a0 : escrow_State) (a1 : api_Tx) : Option (escrow_State × Int) :=
  Option.bind (slices_Clone_escrow_Lock a0.Locks) fun r7 => pxe (escrow_State_do (⟨a0.Side, a0.Time, a0.Purse, a0.Vault, a0.Nonces, a0.Held, a0.Burnt, r7⟩ : escrow_State) a1) (fun e13 => some (a0, e13)) fun r11 => some (r11, 0)
set_option maxRecDepth 20000 in
set_option maxHeartbeats 1000000 in
theorem S_escrow_State_try (a0 : escrow_State) (z0a : Value) (a1 : api_Tx) (r : escrow_State × Int) (h : escrow_State_try a0 a1 = some r) :
    SpecF Tryz.prog 48 [Ag (escrow_State.cs a0 z0a), Ag (api_Tx.cs a1)] [lst 76 3 z0a (a0.Locks.map escrow_Lock.cs)] [] (fun z : Value => True) (fun z => Tu [Ag (escrow_State.cs r.1 z), N r.2]) (fun z M => lst 76 3 z (r.1.Locks.map escrow_Lock.cs) :: M) (fun z M => M) := by
  refine .ofD func48 rfl ntmps48 rfl fun w0 D0 G0 => ?_
  unfold escrow_State_try at h
  refine .cell .k0 fun hv0 => ?_
  refine .seq ?_
  refine .reg rfl ?_
  refine .opx (X.box (cs := (escrow_State.cs a0 z0a)) .t0 rfl) rfl fun b1 => ?_
  refine .opx (X.box (cs := (api_Tx.cs a1)) .t1 rfl) rfl fun b2 => ?_
  refine .opx (X.alc (cs := (escrow_State.cs ⟨0, 0, ⟨⟨⟨0, 0, 0, 0⟩, ⟨0, 0, 0, 0⟩⟩, ⟨⟨0, 0, 0, 0⟩, ⟨0, 0, 0, 0⟩⟩, ⟨⟨0, 0, 0, 0⟩, ⟨0, 0, 0, 0⟩⟩, ⟨⟨0, 0, 0, 0⟩, ⟨0, 0, 0, 0⟩⟩, ⟨⟨0, 0, 0, 0⟩, ⟨0, 0, 0, 0⟩⟩, ⟨⟨0, 0, 0, 0⟩, ⟨0, 0, 0, 0⟩⟩, ⟨⟨0, 0, 0, 0⟩, ⟨0, 0, 0, 0⟩⟩, ⟨⟨0, 0, 0, 0⟩, ⟨0, 0, 0, 0⟩⟩⟩, ⟨⟨⟨0, 0, 0, 0⟩, ⟨0, 0, 0, 0⟩⟩, ⟨⟨0, 0, 0, 0⟩, ⟨0, 0, 0, 0⟩⟩, ⟨⟨0, 0, 0, 0⟩, ⟨0, 0, 0, 0⟩⟩, ⟨⟨0, 0, 0, 0⟩, ⟨0, 0, 0, 0⟩⟩, ⟨⟨0, 0, 0, 0⟩, ⟨0, 0, 0, 0⟩⟩, ⟨⟨0, 0, 0, 0⟩, ⟨0, 0, 0, 0⟩⟩, ⟨⟨0, 0, 0, 0⟩, ⟨0, 0, 0, 0⟩⟩, ⟨⟨0, 0, 0, 0⟩, ⟨0, 0, 0, 0⟩⟩⟩, ⟨0, 0, 0, 0, 0, 0, 0, 0⟩, ⟨⟨0, 0, 0, 0⟩, ⟨0, 0, 0, 0⟩⟩, ⟨0, 0, 0, 0⟩, []⟩ nilSl)) zeroValue45 rfl) rfl fun b3 => ?_
  refine .opx (X.alc (cs := [N 0]) zeroValue63 rfl) rfl fun b4 => ?_
  refine .nil ?_
  refine .then ?_
  refine .seq ?_
  refine .defr rfl (.cons .g3 (.cons .g1 (.cons .g0 .nil))) rfl ?_
  refine .then ?_
  refine .seq ?_
  refine .reg rfl ?_
  refine .op (V.ld (v := Ag (escrow_State.cs a0 z0a)) .g3 .k3 (.agg isAgg45 sizeOf45 rfl rfl)) rfl ?_
  refine .opx (X.alc (cs := (escrow_State.cs ⟨0, 0, ⟨⟨⟨0, 0, 0, 0⟩, ⟨0, 0, 0, 0⟩⟩, ⟨⟨0, 0, 0, 0⟩, ⟨0, 0, 0, 0⟩⟩, ⟨⟨0, 0, 0, 0⟩, ⟨0, 0, 0, 0⟩⟩, ⟨⟨0, 0, 0, 0⟩, ⟨0, 0, 0, 0⟩⟩, ⟨⟨0, 0, 0, 0⟩, ⟨0, 0, 0, 0⟩⟩, ⟨⟨0, 0, 0, 0⟩, ⟨0, 0, 0, 0⟩⟩, ⟨⟨0, 0, 0, 0⟩, ⟨0, 0, 0, 0⟩⟩, ⟨⟨0, 0, 0, 0⟩, ⟨0, 0, 0, 0⟩⟩⟩, ⟨⟨⟨0, 0, 0, 0⟩, ⟨0, 0, 0, 0⟩⟩, ⟨⟨0, 0, 0, 0⟩, ⟨0, 0, 0, 0⟩⟩, ⟨⟨0, 0, 0, 0⟩, ⟨0, 0, 0, 0⟩⟩, ⟨⟨0, 0, 0, 0⟩, ⟨0, 0, 0, 0⟩⟩, ⟨⟨0, 0, 0, 0⟩, ⟨0, 0, 0, 0⟩⟩, ⟨⟨0, 0, 0, 0⟩, ⟨0, 0, 0, 0⟩⟩, ⟨⟨0, 0, 0, 0⟩, ⟨0, 0, 0, 0⟩⟩, ⟨⟨0, 0, 0, 0⟩, ⟨0, 0, 0, 0⟩⟩⟩, ⟨0, 0, 0, 0, 0, 0, 0, 0⟩, ⟨⟨0, 0, 0, 0⟩, ⟨0, 0, 0, 0⟩⟩, ⟨0, 0, 0, 0⟩, []⟩ nilSl)) zeroValue45 rfl) rfl fun b5 => ?_
  refine .onel .k5 fun ho6 => ?_
  refine .opg (G.str .t1 .g0 .k0 (.mk (cs' := (escrow_State.cs a0 z0a)) sizeOf45 rfl (onez_45 _ ho6) rfl rfl)) rfl fun _ _ => ?_
  refine .nil ?_
  refine .then ?_
  refine .seq ?_
  refine .reg rfl ?_
  refine .opp (P.fa .t4 fa_45_7 rfl) rfl ?_
  refine .op (V.ld (v := z0a) .t0 .k4 (.one isAgg43 rfl)) rfl ?_
  obtain ⟨r7, hr8, h⟩ := bnd_eq h
  refine .opg (G.calll call32 (.cons .t0 .nil) (S_slices_Clone_escrow_Lock z0a a0.Locks r7 hr8) .nil (.imp (List.mem_append_right _ Mm.m5) (fun _ => lst_rows) .nil) (fun _ _ => rfl) rfl) rfl fun u9 _ => ?_
  refine .opp (P.fa .g1 fa_45_7 rfl) rfl ?_
  refine .onel .k0 fun ho10 => ?_
  refine .opg (G.str .t1 .t0 .k1 (.mk1 (cs' := (escrow_State.cs ⟨a0.Side, a0.Time, a0.Purse, a0.Vault, a0.Nonces, a0.Held, a0.Burnt, []⟩ u9)) sizeOf43 rfl ho10 rfl rfl)) rfl fun _ _ => ?_
  refine .nil ?_
  refine .then ?_
  refine .seq ?_
  refine .reg rfl ?_
  refine .op (V.ld (v := Ag (api_Tx.cs a1)) .t3 .k4 (.agg isAgg36 sizeOf36 rfl rfl)) rfl ?_
  rcases pxe_eq h with ⟨e13, hr12, h⟩ | ⟨r11, hr12, h⟩
  · refine .opg (G.callx call57 (.cons .g1 (.cons .t0 .nil)) (S_escrow_State_do b5 (⟨a0.Side, a0.Time, a0.Purse, a0.Vault, a0.Nonces, a0.Held, a0.Burnt, r7⟩ : escrow_State) u9 a1 (.er e13) hr12).er (.cons .k0 (.cons .k0 .nil)) .nil ?_) rfl fun _ h_ => h_.elim
    refine .thp ?_
    cases h
    refine .leaveP rfl call56 (S_tryp b1 b3 b4 a0 (⟨0, 0, ⟨⟨⟨0, 0, 0, 0⟩, ⟨0, 0, 0, 0⟩⟩, ⟨⟨0, 0, 0, 0⟩, ⟨0, 0, 0, 0⟩⟩, ⟨⟨0, 0, 0, 0⟩, ⟨0, 0, 0, 0⟩⟩, ⟨⟨0, 0, 0, 0⟩, ⟨0, 0, 0, 0⟩⟩, ⟨⟨0, 0, 0, 0⟩, ⟨0, 0, 0, 0⟩⟩, ⟨⟨0, 0, 0, 0⟩, ⟨0, 0, 0, 0⟩⟩, ⟨⟨0, 0, 0, 0⟩, ⟨0, 0, 0, 0⟩⟩, ⟨⟨0, 0, 0, 0⟩, ⟨0, 0, 0, 0⟩⟩⟩, ⟨⟨⟨0, 0, 0, 0⟩, ⟨0, 0, 0, 0⟩⟩, ⟨⟨0, 0, 0, 0⟩, ⟨0, 0, 0, 0⟩⟩, ⟨⟨0, 0, 0, 0⟩, ⟨0, 0, 0, 0⟩⟩, ⟨⟨0, 0, 0, 0⟩, ⟨0, 0, 0, 0⟩⟩, ⟨⟨0, 0, 0, 0⟩, ⟨0, 0, 0, 0⟩⟩, ⟨⟨0, 0, 0, 0⟩, ⟨0, 0, 0, 0⟩⟩, ⟨⟨0, 0, 0, 0⟩, ⟨0, 0, 0, 0⟩⟩, ⟨⟨0, 0, 0, 0⟩, ⟨0, 0, 0, 0⟩⟩⟩, ⟨0, 0, 0, 0, 0, 0, 0, 0⟩, ⟨⟨0, 0, 0, 0⟩, ⟨0, 0, 0, 0⟩⟩, ⟨0, 0, 0, 0⟩, []⟩ : escrow_State) z0a nilSl 0 e13 hv0) (.cons .k3 (.cons .k1 (.cons .k0 .nil))) .nil rfl ?_
    exact .finD z0a (.r2 rfl (.cell .g2 .k1 (.agg isAgg45 sizeOf45 rfl rfl)) (.cell .g1 .k2 (.one isAgg63 rfl))) trivial (by exact Ls.of (.cons .k4 .nil)) (by exact Rs.nil)
  · refine .opg (G.call call57 (.cons .g1 (.cons .t0 .nil)) (S_escrow_State_do b5 (⟨a0.Side, a0.Time, a0.Purse, a0.Vault, a0.Nonces, a0.Held, a0.Burnt, r7⟩ : escrow_State) u9 a1 (.ok r11) hr12).ok (.cons .k0 (.cons .k0 .nil)) .nil (fun _ _ => rfl) (fun _ _ => rfl) rfl) rfl fun u14 _ => ?_
    refine .drop .k0 ?_
    refine .nil ?_
    refine .then ?_
    refine .seq ?_
    refine .reg rfl ?_
    refine .op (V.ld (v := Ag (escrow_State.cs r11 u14)) .t0 .k0 (.agg isAgg45 sizeOf45 rfl rfl)) rfl ?_
    refine .onel .k1 fun ho15 => ?_
    refine .opg (G.str .t0 .g1 .k3 (.mk (cs' := (escrow_State.cs r11 u14)) sizeOf45 rfl (onez_45 _ ho15) rfl rfl)) rfl fun _ _ => ?_
    refine .opg (G.str .k .g0 .k3 (.mk (cs' := [N 0]) sizeOf63 rfl rfl rfl rfl)) rfl fun _ _ => ?_
    refine .nil ?_
    refine .then ?_
    refine .ret ?_
    cases h
    refine .leaveR rfl call56 (S_tryr b1 b3 b4 a0 r11 z0a u14 0 0 hv0) (.cons .k5 (.cons .k1 (.cons .k0 .nil))) .nil ?_
    exact .finD u14 (.r2 rfl (.cell .g1 .k1 (.agg isAgg45 sizeOf45 rfl rfl)) (.cell .g0 .k2 (.one isAgg63 rfl))) trivial (by exact Ls.of (.cons .k4 .nil)) (by exact Rs.nil)
attribute [irreducible] escrow_State_try
noncomputable def escrow_Apply (a0 : escrow_State) (a1 : api_Tx) : Option (escrow_State × Int × Bool) :=
  Option.bind (slices_Clone_escrow_Lock a0.Locks) fun r4 => if (decide ((txs_Check a1) ≠ 0)) = true then (some (((⟨a0.Side, a0.Time, a0.Purse, a0.Vault, a0.Nonces, a0.Held, a0.Burnt, r4⟩ : escrow_State), (txs_Check a1), false))) else (Option.bind (at_ (A8_i64.list a0.Nonces) a1.From) fun (x10 : Int) => if (decide (a1.Nonce ≠ x10)) = true then (some (((⟨a0.Side, a0.Time, a0.Purse, a0.Vault, a0.Nonces, a0.Held, a0.Burnt, r4⟩ : escrow_State), 20, false))) else (Option.bind (purse_Book_Take a0.Purse a1.From 0 (wide_Of 1)) fun r16 => thn (if (decide (r16.2 ≠ 0)) = true then true else (!(wide_Add a0.Burnt (wide_Of 1)).2)) fun (y20 : Bool) => if y20 = true then (some (((⟨a0.Side, a0.Time, a0.Purse, a0.Vault, a0.Nonces, a0.Held, a0.Burnt, r4⟩ : escrow_State), 21, false))) else (Option.bind (at_ (A8_i64.list a0.Nonces) a1.From) fun (x26 : Int) => Option.bind (at_ (A8_i64.list a0.Nonces) a1.From) fun (x30 : Int) => Option.bind (escrow_State_try (⟨a0.Side, a0.Time, r16.1, a0.Vault, A8_i64.set a0.Nonces (a1.From).toNat (IntKind.i64.wrap (x26 + 1)), a0.Held, (wide_Add a0.Burnt (wide_Of 1)).1, r4⟩ : escrow_State) a1) fun r34 => some (r34.1, r34.2, true))))
set_option maxRecDepth 20000 in
set_option maxHeartbeats 1000000 in
theorem S_escrow_Apply (a0 : escrow_State) (z00a : Value) (a1 : api_Tx) (r : escrow_State × Int × Bool) (h : escrow_Apply a0 a1 = some r) :
    SpecF Tryz.prog 28 [Ag (escrow_State.cs a0 z00a), Ag (api_Tx.cs a1)] [] [rows 3 z00a (a0.Locks.map escrow_Lock.cs)] (fun z : Value => True) (fun z => Tu [Ag (escrow_State.cs r.1 z), N r.2.1, Bo r.2.2]) (fun z M => lst 76 3 z (r.1.Locks.map escrow_Lock.cs) ::  M) (fun z M =>  M) := by
  refine .of func28 rfl ntmps28 rfl fun w0 D0 G0 => ?_
  unfold escrow_Apply at h
  refine .seq ?_
  refine .reg rfl ?_
  refine .opx (X.box (cs := (escrow_State.cs a0 z00a)) .t0 rfl) rfl fun b1 => ?_
  refine .opx (X.box (cs := (api_Tx.cs a1)) .t1 rfl) rfl fun b2 => ?_
  refine .opx (X.alc (cs := (escrow_State.cs ⟨0, 0, ⟨⟨⟨0, 0, 0, 0⟩, ⟨0, 0, 0, 0⟩⟩, ⟨⟨0, 0, 0, 0⟩, ⟨0, 0, 0, 0⟩⟩, ⟨⟨0, 0, 0, 0⟩, ⟨0, 0, 0, 0⟩⟩, ⟨⟨0, 0, 0, 0⟩, ⟨0, 0, 0, 0⟩⟩, ⟨⟨0, 0, 0, 0⟩, ⟨0, 0, 0, 0⟩⟩, ⟨⟨0, 0, 0, 0⟩, ⟨0, 0, 0, 0⟩⟩, ⟨⟨0, 0, 0, 0⟩, ⟨0, 0, 0, 0⟩⟩, ⟨⟨0, 0, 0, 0⟩, ⟨0, 0, 0, 0⟩⟩⟩, ⟨⟨⟨0, 0, 0, 0⟩, ⟨0, 0, 0, 0⟩⟩, ⟨⟨0, 0, 0, 0⟩, ⟨0, 0, 0, 0⟩⟩, ⟨⟨0, 0, 0, 0⟩, ⟨0, 0, 0, 0⟩⟩, ⟨⟨0, 0, 0, 0⟩, ⟨0, 0, 0, 0⟩⟩, ⟨⟨0, 0, 0, 0⟩, ⟨0, 0, 0, 0⟩⟩, ⟨⟨0, 0, 0, 0⟩, ⟨0, 0, 0, 0⟩⟩, ⟨⟨0, 0, 0, 0⟩, ⟨0, 0, 0, 0⟩⟩, ⟨⟨0, 0, 0, 0⟩, ⟨0, 0, 0, 0⟩⟩⟩, ⟨0, 0, 0, 0, 0, 0, 0, 0⟩, ⟨⟨0, 0, 0, 0⟩, ⟨0, 0, 0, 0⟩⟩, ⟨0, 0, 0, 0⟩, []⟩ nilSl)) zeroValue45 rfl) rfl fun b3 => ?_
  refine .op0 (OpP.toV (P.asg .k)) rfl ?_
  refine .op0 (OpP.toV (P.asg .k)) rfl ?_
  refine .nil ?_
  refine .then ?_
  refine .seq ?_
  refine .reg rfl ?_
  refine .opp (P.fa .g2 fa_45_7 rfl) rfl ?_
  refine .op (V.ld (v := z00a) .t0 .k2 (.one isAgg43 rfl)) rfl ?_
  obtain ⟨r4, hr5, h⟩ := bnd_eq h
  refine .opg (G.call call32 (.cons .t0 .nil) (S_slices_Clone_escrow_Lock z00a a0.Locks r4 hr5) .nil (.cons Mm.m0 .nil) (fun _ _ => rfl) (fun _ _ => rfl) rfl) rfl fun u6 _ => ?_
  refine .opp (P.fa .g3 fa_45_7 rfl) rfl ?_
  refine .onel .k0 fun ho7 => ?_
  refine .opg (G.str .t1 .t0 .k3 (.mk1 (cs' := (escrow_State.cs ⟨a0.Side, a0.Time, a0.Purse, a0.Vault, a0.Nonces, a0.Held, a0.Burnt, []⟩ u6)) sizeOf43 rfl ho7 rfl rfl)) rfl fun _ _ => ?_
  refine .nil ?_
  refine .then ?_
  refine .seq ?_
  refine .seq ?_
  refine .reg rfl ?_
  refine .op (V.ld (v := Ag (api_Tx.cs a1)) .g1 .k3 (.agg isAgg36 sizeOf36 rfl rfl)) rfl ?_
  refine .opg (G.call call26 (.cons .t0 .nil) (S_txs_Check a1 _ rfl) .nil .nil (fun _ _ => rfl) (fun _ _ => rfl) rfl) rfl fun _ _ => ?_
  refine .opp (P.asg .t0) rfl ?_
  refine .nil ?_
  refine .then ?_
  refine .seq ?_
  refine .reg rfl ?_
  refine .opp (P.mov .g0) rfl ?_
  refine .opp (P.bin .t0 .k .neq) rfl ?_
  refine .nil ?_
  refine .then ?_
  refine .cond .t0 (fun c8 => ?_) (fun c8 => ?_)
  · rw [if_pos c8] at h
    refine .seq ?_
    refine .reg rfl ?_
    refine .op (V.ld (v := Ag (escrow_State.cs ⟨a0.Side, a0.Time, a0.Purse, a0.Vault, a0.Nonces, a0.Held, a0.Burnt, []⟩ u6)) .t3 .k0 (.agg isAgg45 sizeOf45 rfl rfl)) rfl ?_
    refine .opp (P.mov .t1) rfl ?_
    refine .onel .k1 fun ho9 => ?_
    refine .opg (G.str .t1 .g1 .k2 (.mk (cs' := (escrow_State.cs ⟨a0.Side, a0.Time, a0.Purse, a0.Vault, a0.Nonces, a0.Held, a0.Burnt, []⟩ u6)) sizeOf45 rfl (onez_45 _ ho9) rfl rfl)) rfl fun _ _ => ?_
    refine .opp (P.asg .t0) rfl ?_
    refine .opp (P.asg .k) rfl ?_
    refine .nil ?_
    refine .then ?_
    refine .ret ?_
    refine .thr ?_
    cases h
    exact .finw u6 (.r3 rfl (.cell .g2 .k0 (.agg isAgg45 sizeOf45 rfl rfl)) (.tmp .g1) (.tmp .g0)) trivial (Ls.of (.cons .k2 .nil)) .nil
  · rw [if_neg (ne_true_of_eq_false c8)] at h
    refine .skip ?_
    refine .then ?_
    refine .seq ?_
    refine .seq ?_
    refine .draw 8 (.on 0 .pu (.on 2 .pu (.on 4 .pu (.on 1 .ld (.on 3 .ld (.on 5 .pu (.on 6 .ld (.on 7 .pu .nl)))))))) follows_mixed (.thn (.thn .body)) (by kernel_rfl) ?_
    refine .dpu rfl (.n rfl) (P.fa .g2 fa_36_1 rfl) rfl rfl ?_
    refine .dpu rfl (.n rfl) (P.fa .g3 fa_36_0 rfl) rfl rfl ?_
    refine .dpu rfl (.n rfl) (P.fa .g5 fa_45_4 rfl) rfl rfl ?_
    refine .dld rfl (.n rfl) (V.ld (v := N a1.Nonce) .t2 .k3 (.one isAgg3 rfl)) (fun _ h => h) rfl rfl ?_
    refine .dld rfl (.n rfl) (V.ld (v := N a1.From) .t2 .k3 (.one isAgg3 rfl)) (fun _ h => h) rfl rfl ?_
    obtain ⟨x10, hx11, h⟩ := bnd_eq h
    obtain ⟨i12, hi13, hx11⟩ := at_eq hx11
    have hi13_ : (a1.From).toNat = i12 := by rw [hi13]; rfl
    refine .dpu rfl (.n rfl) (P.iad (i := i12) (off' := (130 + i12 * 1)) .t0 hi13 .t1 runUnderlying42 sizeOf3 (lt_of_get hx11) rfl) rfl rfl ?_
    refine .dld rfl (.n rfl) (V.ld (v := N x10) .t0 .k0 (by rcases i12 with _ | _ | _ | _ | _ | _ | _ | _ | _ <;> first | (obtain rfl := Option.some.inj hx11; exact LdV.one isAgg3 rfl) | (cases hx11; done))) (fun _ h => h) rfl rfl ?_
    refine .dpu rfl (.n rfl) (P.bin .t1 .t0 .neq) rfl rfl ?_
    refine .dnil ?_
    refine .then ?_
    refine .cond .t0 (fun c14 => ?_) (fun c14 => ?_)
    · rw [if_pos c14] at h
      refine .seq ?_
      refine .reg rfl ?_
      refine .op (V.ld (v := Ag (escrow_State.cs ⟨a0.Side, a0.Time, a0.Purse, a0.Vault, a0.Nonces, a0.Held, a0.Burnt, []⟩ u6)) .t3 .k0 (.agg isAgg45 sizeOf45 rfl rfl)) rfl ?_
      refine .onel .k1 fun ho15 => ?_
      refine .opg (G.str .t0 .g1 .k2 (.mk (cs' := (escrow_State.cs ⟨a0.Side, a0.Time, a0.Purse, a0.Vault, a0.Nonces, a0.Held, a0.Burnt, []⟩ u6)) sizeOf45 rfl (onez_45 _ ho15) rfl rfl)) rfl fun _ _ => ?_
      refine .opp (P.asg .k) rfl ?_
      refine .opp (P.asg .k) rfl ?_
      refine .nil ?_
      refine .then ?_
      refine .ret ?_
      refine .thr ?_
      cases h
      exact .finw u6 (.r3 rfl (.cell .g3 .k0 (.agg isAgg45 sizeOf45 rfl rfl)) (.tmp .g1) (.tmp .g0)) trivial (Ls.of (.cons .k2 .nil)) .nil
    · rw [if_neg (ne_true_of_eq_false c14)] at h
      refine .skip ?_
      refine .then ?_
      refine .seq ?_
      obtain ⟨r16, hr17, h⟩ := bnd_eq h
      refine .dcut (γ := Nat) (φ := fun _ => True) (E1 := fun x_ => [(9, N r16.2), (8, pt x_ 0), (4, pt b3 0), (3, pt b2 0), (2, pt b1 0)]) (L1 := fun x_ => [blk x_ 41 (purse_Book.cs r16.1), blk b1 45 (escrow_State.cs ⟨a0.Side, a0.Time, a0.Purse, a0.Vault, a0.Nonces, a0.Held, a0.Burnt, []⟩ u6), lst 76 3 u6 (r4.map escrow_Lock.cs), blk b3 45 (escrow_State.cs ⟨0, 0, ⟨⟨⟨0, 0, 0, 0⟩, ⟨0, 0, 0, 0⟩⟩, ⟨⟨0, 0, 0, 0⟩, ⟨0, 0, 0, 0⟩⟩, ⟨⟨0, 0, 0, 0⟩, ⟨0, 0, 0, 0⟩⟩, ⟨⟨0, 0, 0, 0⟩, ⟨0, 0, 0, 0⟩⟩, ⟨⟨0, 0, 0, 0⟩, ⟨0, 0, 0, 0⟩⟩, ⟨⟨0, 0, 0, 0⟩, ⟨0, 0, 0, 0⟩⟩, ⟨⟨0, 0, 0, 0⟩, ⟨0, 0, 0, 0⟩⟩, ⟨⟨0, 0, 0, 0⟩, ⟨0, 0, 0, 0⟩⟩⟩, ⟨⟨⟨0, 0, 0, 0⟩, ⟨0, 0, 0, 0⟩⟩, ⟨⟨0, 0, 0, 0⟩, ⟨0, 0, 0, 0⟩⟩, ⟨⟨0, 0, 0, 0⟩, ⟨0, 0, 0, 0⟩⟩, ⟨⟨0, 0, 0, 0⟩, ⟨0, 0, 0, 0⟩⟩, ⟨⟨0, 0, 0, 0⟩, ⟨0, 0, 0, 0⟩⟩, ⟨⟨0, 0, 0, 0⟩, ⟨0, 0, 0, 0⟩⟩, ⟨⟨0, 0, 0, 0⟩, ⟨0, 0, 0, 0⟩⟩, ⟨⟨0, 0, 0, 0⟩, ⟨0, 0, 0, 0⟩⟩⟩, ⟨0, 0, 0, 0, 0, 0, 0, 0⟩, ⟨⟨0, 0, 0, 0⟩, ⟨0, 0, 0, 0⟩⟩, ⟨0, 0, 0, 0⟩, []⟩ nilSl), blk b2 36 (api_Tx.cs a1)]) (R1 := fun x_ => [rows 3 z00a (a0.Locks.map escrow_Lock.cs)]) ?_ (fun b18 _ => ?_)
      · refine .draw 12 (.on 0 .pu (.on 2 .pu (.on 1 .ld (.on 3 .ld (.fk 4 9 (.fk 5 9 (.on 6 .pu (.on 7 .pu (.on 8 .pu (.on 9 .go (.on 10 .go (.on 11 .go .nl)))))) (.on 5 .go (.on 6 .pu (.on 7 .pu (.on 8 .pu (.on 10 .go (.on 11 .go .nl))))))) (.on 4 .go (.on 5 .go (.on 6 .pu (.on 7 .pu (.on 8 .pu (.on 10 .go (.on 11 .go .nl)))))))))))) follows_mixed (.thn (.thn .body)) (by kernel_rfl) ?_
        refine .dpu rfl (.n rfl) (P.fa .g3 fa_45_2 rfl) rfl rfl ?_
        refine .dpu rfl (.n rfl) (P.fa .g3 fa_36_0 rfl) rfl rfl ?_
        refine .dld rfl (.n rfl) (V.ld (v := Ag (purse_Book.cs a0.Purse)) .t1 .k0 (.agg isAgg41 sizeOf41 rfl rfl)) (fun _ h => h) rfl rfl ?_
        refine .dld rfl (.n rfl) (V.ld (v := N a1.From) .t1 .k3 (.one isAgg3 rfl)) (fun _ h => h) rfl rfl ?_
        refine .dfk ?_ ?_
        · refine .dgo rfl (.n rfl) (G.call call36 (.cons .k .nil) (S_wide_Of 1 _ rfl) .nil .nil (fun _ _ => rfl) (fun _ _ => rfl) rfl) (.inr fun _ _ _ h => h) fun _ _ => ?_
          refine .dfk ?_ ?_
          · refine .dgo rfl (.n rfl) (G.call call46 (.cons .t2 (.cons .t1 (.cons .k (.cons .t0 .nil)))) (S_purse_Book_Take a0.Purse a1.From 0 (wide_Of 1) r16 hr17) .nil .nil (fun _ _ => rfl) (fun _ _ => rfl) rfl) (.inr fun _ _ _ h => h) fun _ _ => ?_
            refine .dpu rfl (.n rfl) (P.mov .t0) rfl rfl ?_
            refine .dpu rfl (.n rfl) (P.ext (v := Ag (purse_Book.cs r16.1)) .g0 rfl) rfl rfl ?_
            refine .dpu rfl (.n rfl) (P.ext (v := N r16.2) .t1 rfl) rfl rfl ?_
            refine .dgo rfl (.n rfl) (OpX.g (X.alc (cs := (purse_Book.cs ⟨⟨⟨0, 0, 0, 0⟩, ⟨0, 0, 0, 0⟩⟩, ⟨⟨0, 0, 0, 0⟩, ⟨0, 0, 0, 0⟩⟩, ⟨⟨0, 0, 0, 0⟩, ⟨0, 0, 0, 0⟩⟩, ⟨⟨0, 0, 0, 0⟩, ⟨0, 0, 0, 0⟩⟩, ⟨⟨0, 0, 0, 0⟩, ⟨0, 0, 0, 0⟩⟩, ⟨⟨0, 0, 0, 0⟩, ⟨0, 0, 0, 0⟩⟩, ⟨⟨0, 0, 0, 0⟩, ⟨0, 0, 0, 0⟩⟩, ⟨⟨0, 0, 0, 0⟩, ⟨0, 0, 0, 0⟩⟩⟩)) zeroValue41 rfl) rfl) (.inr fun _ _ _ h => (h.imp (Ls.of (.cons .k1 (.cons .k1 (.cons .k1 (.cons .k1 .nil)))))).ro (Rs.cons Mm.m0 Rs.nil)) fun b18 _ => ?_
            refine .dgo rfl (.n rfl) (G.str .t2 .g0 .k0 (.mk (cs' := (purse_Book.cs r16.1)) sizeOf41 rfl rfl rfl rfl)) (.inr fun _ _ _ h => (h.imp (Ls.of (.cons .k1 (.cons .k1 (.cons .k1 (.cons .k1 .nil)))))).ro (Rs.cons Mm.m0 Rs.nil)) fun _ _ => ?_
            refine .dgo rfl (.n rfl) (OpV.g (OpP.toV (P.asg .t1)) rfl) (.inr fun _ _ _ h => (h.imp (Ls.of (.cons .k1 (.cons .k1 (.cons .k1 (.cons .k1 .nil)))))).ro (Rs.cons Mm.m0 Rs.nil)) fun _ _ => ?_
            refine .dnil ?_
            exact .dst b18 trivial (.cons Mm.m0 (.cons Mm.m1 (.cons Mm.m3 (.cons Mm.m4 (.cons Mm.m5 .nil))))) (Ls.of (.cons .k0 (.cons .k0 (.cons .k0 (.cons .k0 (.cons .k0 .nil)))))) (.cons Mm.m0 .nil)
          · refine .dgo rfl (.n rfl) (OpX.g (X.alc (cs := (purse_Book.cs ⟨⟨⟨0, 0, 0, 0⟩, ⟨0, 0, 0, 0⟩⟩, ⟨⟨0, 0, 0, 0⟩, ⟨0, 0, 0, 0⟩⟩, ⟨⟨0, 0, 0, 0⟩, ⟨0, 0, 0, 0⟩⟩, ⟨⟨0, 0, 0, 0⟩, ⟨0, 0, 0, 0⟩⟩, ⟨⟨0, 0, 0, 0⟩, ⟨0, 0, 0, 0⟩⟩, ⟨⟨0, 0, 0, 0⟩, ⟨0, 0, 0, 0⟩⟩, ⟨⟨0, 0, 0, 0⟩, ⟨0, 0, 0, 0⟩⟩, ⟨⟨0, 0, 0, 0⟩, ⟨0, 0, 0, 0⟩⟩⟩)) zeroValue41 rfl) rfl) (.inr fun _ _ _ h => (h.imp (Ls.of (.cons .k1 (.cons .k1 (.cons .k1 (.cons .k1 .nil)))))).ro (Rs.cons Mm.m0 Rs.nil)) fun b18 _ => ?_
            refine .dgo rfl (.n rfl) (G.call call46 (.cons .t3 (.cons .t2 (.cons .k (.cons .t1 .nil)))) (S_purse_Book_Take a0.Purse a1.From 0 (wide_Of 1) r16 hr17) .nil .nil (fun _ _ => rfl) (fun _ _ => rfl) rfl) (.inr fun _ _ _ h => (h.imp (Ls.of (.cons .k1 (.cons .k1 (.cons .k1 (.cons .k1 .nil)))))).ro (Rs.cons Mm.m0 Rs.nil)) fun _ _ => ?_
            refine .dpu rfl (.n rfl) (P.mov .t0) rfl rfl ?_
            refine .dpu rfl (.n rfl) (P.ext (v := Ag (purse_Book.cs r16.1)) .g0 rfl) rfl rfl ?_
            refine .dpu rfl (.n rfl) (P.ext (v := N r16.2) .t1 rfl) rfl rfl ?_
            refine .dgo rfl (.n rfl) (G.str .t1 .g1 .k0 (.mk (cs' := (purse_Book.cs r16.1)) sizeOf41 rfl rfl rfl rfl)) (.inr fun _ _ _ h => (h.imp (Ls.of (.cons .k1 (.cons .k1 (.cons .k1 (.cons .k1 .nil)))))).ro (Rs.cons Mm.m0 Rs.nil)) fun _ _ => ?_
            refine .dgo rfl (.n rfl) (OpV.g (OpP.toV (P.asg .t0)) rfl) (.inr fun _ _ _ h => (h.imp (Ls.of (.cons .k1 (.cons .k1 (.cons .k1 (.cons .k1 .nil)))))).ro (Rs.cons Mm.m0 Rs.nil)) fun _ _ => ?_
            refine .dnil ?_
            exact .dst b18 trivial (.cons Mm.m0 (.cons Mm.m1 (.cons Mm.m3 (.cons Mm.m4 (.cons Mm.m5 .nil))))) (Ls.of (.cons .k0 (.cons .k0 (.cons .k0 (.cons .k0 (.cons .k0 .nil)))))) (.cons Mm.m0 .nil)
        · refine .dgo rfl (.n rfl) (OpX.g (X.alc (cs := (purse_Book.cs ⟨⟨⟨0, 0, 0, 0⟩, ⟨0, 0, 0, 0⟩⟩, ⟨⟨0, 0, 0, 0⟩, ⟨0, 0, 0, 0⟩⟩, ⟨⟨0, 0, 0, 0⟩, ⟨0, 0, 0, 0⟩⟩, ⟨⟨0, 0, 0, 0⟩, ⟨0, 0, 0, 0⟩⟩, ⟨⟨0, 0, 0, 0⟩, ⟨0, 0, 0, 0⟩⟩, ⟨⟨0, 0, 0, 0⟩, ⟨0, 0, 0, 0⟩⟩, ⟨⟨0, 0, 0, 0⟩, ⟨0, 0, 0, 0⟩⟩, ⟨⟨0, 0, 0, 0⟩, ⟨0, 0, 0, 0⟩⟩⟩)) zeroValue41 rfl) rfl) (.inr fun _ _ _ h => (h.imp (Ls.of (.cons .k1 (.cons .k1 (.cons .k1 (.cons .k1 .nil)))))).ro (Rs.cons Mm.m0 Rs.nil)) fun b18 _ => ?_
          refine .dgo rfl (.n rfl) (G.call call36 (.cons .k .nil) (S_wide_Of 1 _ rfl) .nil .nil (fun _ _ => rfl) (fun _ _ => rfl) rfl) (.inr fun _ _ _ h => (h.imp (Ls.of (.cons .k1 (.cons .k1 (.cons .k1 (.cons .k1 .nil)))))).ro (Rs.cons Mm.m0 Rs.nil)) fun _ _ => ?_
          refine .dgo rfl (.n rfl) (G.call call46 (.cons .t3 (.cons .t2 (.cons .k (.cons .t0 .nil)))) (S_purse_Book_Take a0.Purse a1.From 0 (wide_Of 1) r16 hr17) .nil .nil (fun _ _ => rfl) (fun _ _ => rfl) rfl) (.inr fun _ _ _ h => (h.imp (Ls.of (.cons .k1 (.cons .k1 (.cons .k1 (.cons .k1 .nil)))))).ro (Rs.cons Mm.m0 Rs.nil)) fun _ _ => ?_
          refine .dpu rfl (.n rfl) (P.mov .t0) rfl rfl ?_
          refine .dpu rfl (.n rfl) (P.ext (v := Ag (purse_Book.cs r16.1)) .g0 rfl) rfl rfl ?_
          refine .dpu rfl (.n rfl) (P.ext (v := N r16.2) .t1 rfl) rfl rfl ?_
          refine .dgo rfl (.n rfl) (G.str .t1 .g1 .k0 (.mk (cs' := (purse_Book.cs r16.1)) sizeOf41 rfl rfl rfl rfl)) (.inr fun _ _ _ h => (h.imp (Ls.of (.cons .k1 (.cons .k1 (.cons .k1 (.cons .k1 .nil)))))).ro (Rs.cons Mm.m0 Rs.nil)) fun _ _ => ?_
          refine .dgo rfl (.n rfl) (OpV.g (OpP.toV (P.asg .t0)) rfl) (.inr fun _ _ _ h => (h.imp (Ls.of (.cons .k1 (.cons .k1 (.cons .k1 (.cons .k1 .nil)))))).ro (Rs.cons Mm.m0 Rs.nil)) fun _ _ => ?_
          refine .dnil ?_
          exact .dst b18 trivial (.cons Mm.m0 (.cons Mm.m1 (.cons Mm.m3 (.cons Mm.m4 (.cons Mm.m5 .nil))))) (Ls.of (.cons .k0 (.cons .k0 (.cons .k0 (.cons .k0 (.cons .k0 .nil)))))) (.cons Mm.m0 .nil)
      · refine .then ?_
        refine .seq ?_
        refine .dcut (γ := Nat) (φ := fun _ => True) (E1 := fun x_ => [(11, Bo (wide_Add a0.Burnt (wide_Of 1)).2), (10, pt x_ 0), (9, N r16.2), (8, pt b18 0), (4, pt b3 0), (3, pt b2 0), (2, pt b1 0)]) (L1 := fun x_ => [blk x_ 30 (api_Wide.cs (wide_Add a0.Burnt (wide_Of 1)).1), blk b18 41 (purse_Book.cs r16.1), blk b1 45 (escrow_State.cs ⟨a0.Side, a0.Time, a0.Purse, a0.Vault, a0.Nonces, a0.Held, a0.Burnt, []⟩ u6), lst 76 3 u6 (r4.map escrow_Lock.cs), blk b3 45 (escrow_State.cs ⟨0, 0, ⟨⟨⟨0, 0, 0, 0⟩, ⟨0, 0, 0, 0⟩⟩, ⟨⟨0, 0, 0, 0⟩, ⟨0, 0, 0, 0⟩⟩, ⟨⟨0, 0, 0, 0⟩, ⟨0, 0, 0, 0⟩⟩, ⟨⟨0, 0, 0, 0⟩, ⟨0, 0, 0, 0⟩⟩, ⟨⟨0, 0, 0, 0⟩, ⟨0, 0, 0, 0⟩⟩, ⟨⟨0, 0, 0, 0⟩, ⟨0, 0, 0, 0⟩⟩, ⟨⟨0, 0, 0, 0⟩, ⟨0, 0, 0, 0⟩⟩, ⟨⟨0, 0, 0, 0⟩, ⟨0, 0, 0, 0⟩⟩⟩, ⟨⟨⟨0, 0, 0, 0⟩, ⟨0, 0, 0, 0⟩⟩, ⟨⟨0, 0, 0, 0⟩, ⟨0, 0, 0, 0⟩⟩, ⟨⟨0, 0, 0, 0⟩, ⟨0, 0, 0, 0⟩⟩, ⟨⟨0, 0, 0, 0⟩, ⟨0, 0, 0, 0⟩⟩, ⟨⟨0, 0, 0, 0⟩, ⟨0, 0, 0, 0⟩⟩, ⟨⟨0, 0, 0, 0⟩, ⟨0, 0, 0, 0⟩⟩, ⟨⟨0, 0, 0, 0⟩, ⟨0, 0, 0, 0⟩⟩, ⟨⟨0, 0, 0, 0⟩, ⟨0, 0, 0, 0⟩⟩⟩, ⟨0, 0, 0, 0, 0, 0, 0, 0⟩, ⟨⟨0, 0, 0, 0⟩, ⟨0, 0, 0, 0⟩⟩, ⟨0, 0, 0, 0⟩, []⟩ nilSl), blk b2 36 (api_Tx.cs a1)]) (R1 := fun x_ => [rows 3 z00a (a0.Locks.map escrow_Lock.cs)]) ?_ (fun b19 _ => ?_)
        · refine .draw 10 (.on 0 .pu (.on 1 .ld (.fk 2 7 (.fk 3 7 (.on 4 .pu (.on 5 .pu (.on 6 .pu (.on 7 .go (.on 8 .go (.on 9 .go .nl)))))) (.on 3 .go (.on 4 .pu (.on 5 .pu (.on 6 .pu (.on 8 .go (.on 9 .go .nl))))))) (.on 2 .go (.on 3 .go (.on 4 .pu (.on 5 .pu (.on 6 .pu (.on 8 .go (.on 9 .go .nl)))))))))) follows_mixed (.thn (.thn .body)) (by kernel_rfl) ?_
          refine .dpu rfl (.n rfl) (P.fa .g4 fa_45_6 rfl) rfl rfl ?_
          refine .dld rfl (.n rfl) (V.ld (v := Ag (api_Wide.cs a0.Burnt)) .t0 .k1 (.agg isAgg30 sizeOf30 rfl rfl)) (fun _ h => h) rfl rfl ?_
          refine .dfk ?_ ?_
          · refine .dgo rfl (.n rfl) (G.call call36 (.cons .k .nil) (S_wide_Of 1 _ rfl) .nil .nil (fun _ _ => rfl) (fun _ _ => rfl) rfl) (.inr fun _ _ _ h => h) fun _ _ => ?_
            refine .dfk ?_ ?_
            · refine .dgo rfl (.n rfl) (G.call call47 (.cons .t1 (.cons .t0 .nil)) (S_wide_Add a0.Burnt (wide_Of 1) _ rfl) .nil .nil (fun _ _ => rfl) (fun _ _ => rfl) rfl) (.inr fun _ _ _ h => h) fun _ _ => ?_
              refine .dpu rfl (.n rfl) (P.mov .t0) rfl rfl ?_
              refine .dpu rfl (.n rfl) (P.ext (v := Ag (api_Wide.cs (wide_Add a0.Burnt (wide_Of 1)).1)) .g0 rfl) rfl rfl ?_
              refine .dpu rfl (.n rfl) (P.ext (v := Bo (wide_Add a0.Burnt (wide_Of 1)).2) .t1 rfl) rfl rfl ?_
              refine .dgo rfl (.n rfl) (OpX.g (X.alc (cs := (api_Wide.cs ⟨0, 0, 0, 0⟩)) zeroValue30 rfl) rfl) (.inr fun _ _ _ h => (h.imp (Ls.of (.cons .k1 (.cons .k1 (.cons .k1 (.cons .k1 (.cons .k1 .nil))))))).ro (Rs.cons Mm.m0 Rs.nil)) fun b19 _ => ?_
              refine .dgo rfl (.n rfl) (G.str .t2 .g0 .k0 (.mk (cs' := (api_Wide.cs (wide_Add a0.Burnt (wide_Of 1)).1)) sizeOf30 rfl rfl rfl rfl)) (.inr fun _ _ _ h => (h.imp (Ls.of (.cons .k1 (.cons .k1 (.cons .k1 (.cons .k1 (.cons .k1 .nil))))))).ro (Rs.cons Mm.m0 Rs.nil)) fun _ _ => ?_
              refine .dgo rfl (.n rfl) (OpV.g (OpP.toV (P.asg .t1)) rfl) (.inr fun _ _ _ h => (h.imp (Ls.of (.cons .k1 (.cons .k1 (.cons .k1 (.cons .k1 (.cons .k1 .nil))))))).ro (Rs.cons Mm.m0 Rs.nil)) fun _ _ => ?_
              refine .dnil ?_
              exact .dst b19 trivial (.cons Mm.m0 (.cons Mm.m1 (.cons Mm.m2 (.cons Mm.m3 (.cons Mm.m4 (.cons Mm.m5 (.cons Mm.m6 .nil))))))) (Ls.of (.cons .k0 (.cons .k0 (.cons .k0 (.cons .k0 (.cons .k0 (.cons .k0 .nil))))))) (.cons Mm.m0 .nil)
            · refine .dgo rfl (.n rfl) (OpX.g (X.alc (cs := (api_Wide.cs ⟨0, 0, 0, 0⟩)) zeroValue30 rfl) rfl) (.inr fun _ _ _ h => (h.imp (Ls.of (.cons .k1 (.cons .k1 (.cons .k1 (.cons .k1 (.cons .k1 .nil))))))).ro (Rs.cons Mm.m0 Rs.nil)) fun b19 _ => ?_
              refine .dgo rfl (.n rfl) (G.call call47 (.cons .t2 (.cons .t1 .nil)) (S_wide_Add a0.Burnt (wide_Of 1) _ rfl) .nil .nil (fun _ _ => rfl) (fun _ _ => rfl) rfl) (.inr fun _ _ _ h => (h.imp (Ls.of (.cons .k1 (.cons .k1 (.cons .k1 (.cons .k1 (.cons .k1 .nil))))))).ro (Rs.cons Mm.m0 Rs.nil)) fun _ _ => ?_
              refine .dpu rfl (.n rfl) (P.mov .t0) rfl rfl ?_
              refine .dpu rfl (.n rfl) (P.ext (v := Ag (api_Wide.cs (wide_Add a0.Burnt (wide_Of 1)).1)) .g0 rfl) rfl rfl ?_
              refine .dpu rfl (.n rfl) (P.ext (v := Bo (wide_Add a0.Burnt (wide_Of 1)).2) .t1 rfl) rfl rfl ?_
              refine .dgo rfl (.n rfl) (G.str .t1 .g1 .k0 (.mk (cs' := (api_Wide.cs (wide_Add a0.Burnt (wide_Of 1)).1)) sizeOf30 rfl rfl rfl rfl)) (.inr fun _ _ _ h => (h.imp (Ls.of (.cons .k1 (.cons .k1 (.cons .k1 (.cons .k1 (.cons .k1 .nil))))))).ro (Rs.cons Mm.m0 Rs.nil)) fun _ _ => ?_
              refine .dgo rfl (.n rfl) (OpV.g (OpP.toV (P.asg .t0)) rfl) (.inr fun _ _ _ h => (h.imp (Ls.of (.cons .k1 (.cons .k1 (.cons .k1 (.cons .k1 (.cons .k1 .nil))))))).ro (Rs.cons Mm.m0 Rs.nil)) fun _ _ => ?_
              refine .dnil ?_
              exact .dst b19 trivial (.cons Mm.m0 (.cons Mm.m1 (.cons Mm.m2 (.cons Mm.m3 (.cons Mm.m4 (.cons Mm.m5 (.cons Mm.m6 .nil))))))) (Ls.of (.cons .k0 (.cons .k0 (.cons .k0 (.cons .k0 (.cons .k0 (.cons .k0 .nil))))))) (.cons Mm.m0 .nil)
          · refine .dgo rfl (.n rfl) (OpX.g (X.alc (cs := (api_Wide.cs ⟨0, 0, 0, 0⟩)) zeroValue30 rfl) rfl) (.inr fun _ _ _ h => (h.imp (Ls.of (.cons .k1 (.cons .k1 (.cons .k1 (.cons .k1 (.cons .k1 .nil))))))).ro (Rs.cons Mm.m0 Rs.nil)) fun b19 _ => ?_
            refine .dgo rfl (.n rfl) (G.call call36 (.cons .k .nil) (S_wide_Of 1 _ rfl) .nil .nil (fun _ _ => rfl) (fun _ _ => rfl) rfl) (.inr fun _ _ _ h => (h.imp (Ls.of (.cons .k1 (.cons .k1 (.cons .k1 (.cons .k1 (.cons .k1 .nil))))))).ro (Rs.cons Mm.m0 Rs.nil)) fun _ _ => ?_
            refine .dgo rfl (.n rfl) (G.call call47 (.cons .t2 (.cons .t0 .nil)) (S_wide_Add a0.Burnt (wide_Of 1) _ rfl) .nil .nil (fun _ _ => rfl) (fun _ _ => rfl) rfl) (.inr fun _ _ _ h => (h.imp (Ls.of (.cons .k1 (.cons .k1 (.cons .k1 (.cons .k1 (.cons .k1 .nil))))))).ro (Rs.cons Mm.m0 Rs.nil)) fun _ _ => ?_
            refine .dpu rfl (.n rfl) (P.mov .t0) rfl rfl ?_
            refine .dpu rfl (.n rfl) (P.ext (v := Ag (api_Wide.cs (wide_Add a0.Burnt (wide_Of 1)).1)) .g0 rfl) rfl rfl ?_
            refine .dpu rfl (.n rfl) (P.ext (v := Bo (wide_Add a0.Burnt (wide_Of 1)).2) .t1 rfl) rfl rfl ?_
            refine .dgo rfl (.n rfl) (G.str .t1 .g1 .k0 (.mk (cs' := (api_Wide.cs (wide_Add a0.Burnt (wide_Of 1)).1)) sizeOf30 rfl rfl rfl rfl)) (.inr fun _ _ _ h => (h.imp (Ls.of (.cons .k1 (.cons .k1 (.cons .k1 (.cons .k1 (.cons .k1 .nil))))))).ro (Rs.cons Mm.m0 Rs.nil)) fun _ _ => ?_
            refine .dgo rfl (.n rfl) (OpV.g (OpP.toV (P.asg .t0)) rfl) (.inr fun _ _ _ h => (h.imp (Ls.of (.cons .k1 (.cons .k1 (.cons .k1 (.cons .k1 (.cons .k1 .nil))))))).ro (Rs.cons Mm.m0 Rs.nil)) fun _ _ => ?_
            refine .dnil ?_
            exact .dst b19 trivial (.cons Mm.m0 (.cons Mm.m1 (.cons Mm.m2 (.cons Mm.m3 (.cons Mm.m4 (.cons Mm.m5 (.cons Mm.m6 .nil))))))) (Ls.of (.cons .k0 (.cons .k0 (.cons .k0 (.cons .k0 (.cons .k0 (.cons .k0 .nil))))))) (.cons Mm.m0 .nil)
        · refine .then ?_
          refine .seq ?_
          obtain ⟨y20, hj22, h⟩ := thn_eq h
          refine .cutx (γ := Unit) (E1 := fun z21 => [(53, Bo y20), (10, pt b19 0), (8, pt b18 0), (4, pt b3 0), (3, pt b2 0), (2, pt b1 0)]) (L1 := fun z21 => [blk b19 30 (api_Wide.cs (wide_Add a0.Burnt (wide_Of 1)).1), blk b18 41 (purse_Book.cs r16.1), blk b3 45 (escrow_State.cs ⟨0, 0, ⟨⟨⟨0, 0, 0, 0⟩, ⟨0, 0, 0, 0⟩⟩, ⟨⟨0, 0, 0, 0⟩, ⟨0, 0, 0, 0⟩⟩, ⟨⟨0, 0, 0, 0⟩, ⟨0, 0, 0, 0⟩⟩, ⟨⟨0, 0, 0, 0⟩, ⟨0, 0, 0, 0⟩⟩, ⟨⟨0, 0, 0, 0⟩, ⟨0, 0, 0, 0⟩⟩, ⟨⟨0, 0, 0, 0⟩, ⟨0, 0, 0, 0⟩⟩, ⟨⟨0, 0, 0, 0⟩, ⟨0, 0, 0, 0⟩⟩, ⟨⟨0, 0, 0, 0⟩, ⟨0, 0, 0, 0⟩⟩⟩, ⟨⟨⟨0, 0, 0, 0⟩, ⟨0, 0, 0, 0⟩⟩, ⟨⟨0, 0, 0, 0⟩, ⟨0, 0, 0, 0⟩⟩, ⟨⟨0, 0, 0, 0⟩, ⟨0, 0, 0, 0⟩⟩, ⟨⟨0, 0, 0, 0⟩, ⟨0, 0, 0, 0⟩⟩, ⟨⟨0, 0, 0, 0⟩, ⟨0, 0, 0, 0⟩⟩, ⟨⟨0, 0, 0, 0⟩, ⟨0, 0, 0, 0⟩⟩, ⟨⟨0, 0, 0, 0⟩, ⟨0, 0, 0, 0⟩⟩, ⟨⟨0, 0, 0, 0⟩, ⟨0, 0, 0, 0⟩⟩⟩, ⟨0, 0, 0, 0, 0, 0, 0, 0⟩, ⟨⟨0, 0, 0, 0⟩, ⟨0, 0, 0, 0⟩⟩, ⟨0, 0, 0, 0⟩, []⟩ nilSl), blk b2 36 (api_Tx.cs a1), blk b1 45 (escrow_State.cs ⟨a0.Side, a0.Time, a0.Purse, a0.Vault, a0.Nonces, a0.Held, a0.Burnt, r4⟩ u6), lst 76 3 u6 (r4.map escrow_Lock.cs)]) (R1 := fun z21 => [rows 3 z00a (a0.Locks.map escrow_Lock.cs)]) ?_ (fun z21 => ?_)
          · clear h
            refine .reg rfl ?_
            refine .opp (P.mov .t2) rfl ?_
            refine .opp (P.bin .t0 .k .neq) rfl ?_
            refine .opp (P.mov .t0) rfl ?_
            refine .split .k0 (fun c23 => ?_) (fun c23 => ?_)
            · rw [if_pos c23] at hj22
              refine .gno rfl .g0 rfl rfl ?_
              refine .gno rfl .g0 rfl rfl ?_
              refine .opp (P.pickT .t0 .k) rfl ?_
              refine .nil ?_
              subst hj22
              exact .stj () (.cons Mm.m0 (.cons Mm.m2 (.cons Mm.m3 (.cons Mm.m4 (.cons Mm.m5 (.cons Mm.m6 .nil)))))) (.of (.cons .k0 (.cons .k0 (.cons .k2 (.cons .k2 (.cons .k0 (.cons .k0 .nil))))))) (.cons Mm.m0 .nil)
            · rw [if_neg (ne_true_of_eq_false c23)] at hj22
              refine .gyes rfl .g0 ?_
              refine .opp (P.mov .t1) rfl ?_
              refine .gyes rfl .g1 ?_
              refine .opp (P.not .t0) rfl ?_
              refine .opp (P.pickF .t1 .t0) rfl ?_
              refine .nil ?_
              subst hj22
              exact .stj () (.cons Mm.m0 (.cons Mm.m1 (.cons Mm.m2 (.cons Mm.m3 (.cons Mm.m4 (.cons Mm.m5 .nil)))))) (.of (.cons .k0 (.cons .k0 (.cons .k2 (.cons .k2 (.cons .k0 (.cons .k0 .nil))))))) (.cons Mm.m0 .nil)
          · clear hj22
            refine .cond .t0 (fun c24 => ?_) (fun c24 => ?_)
            · rw [if_pos c24] at h
              refine .seq ?_
              refine .reg rfl ?_
              refine .op (V.ld (v := Ag (escrow_State.cs ⟨a0.Side, a0.Time, a0.Purse, a0.Vault, a0.Nonces, a0.Held, a0.Burnt, r4⟩ u6)) .t4 .k4 (.agg isAgg45 sizeOf45 rfl rfl)) rfl ?_
              refine .onel .k5 fun ho25 => ?_
              refine .opg (G.str .t0 .g2 .k2 (.mk (cs' := (escrow_State.cs ⟨a0.Side, a0.Time, a0.Purse, a0.Vault, a0.Nonces, a0.Held, a0.Burnt, r4⟩ u6)) sizeOf45 rfl (onez_45 _ ho25) rfl rfl)) rfl fun _ _ => ?_
              refine .opp (P.asg .k) rfl ?_
              refine .opp (P.asg .k) rfl ?_
              refine .nil ?_
              refine .then ?_
              refine .ret ?_
              refine .thr ?_
              cases h
              exact .finw u6 (.r3 rfl (.cell .g4 .k0 (.agg isAgg45 sizeOf45 rfl rfl)) (.tmp .g1) (.tmp .g0)) trivial (Ls.of (.cons .k5 .nil)) .nil
            · rw [if_neg (ne_true_of_eq_false c24)] at h
              refine .skip ?_
              refine .then ?_
              refine .seq ?_
              refine .drawl [blk b19 30 (api_Wide.cs (wide_Add a0.Burnt (wide_Of 1)).1), blk b18 41 (purse_Book.cs r16.1), blk b3 45 (escrow_State.cs ⟨0, 0, ⟨⟨⟨0, 0, 0, 0⟩, ⟨0, 0, 0, 0⟩⟩, ⟨⟨0, 0, 0, 0⟩, ⟨0, 0, 0, 0⟩⟩, ⟨⟨0, 0, 0, 0⟩, ⟨0, 0, 0, 0⟩⟩, ⟨⟨0, 0, 0, 0⟩, ⟨0, 0, 0, 0⟩⟩, ⟨⟨0, 0, 0, 0⟩, ⟨0, 0, 0, 0⟩⟩, ⟨⟨0, 0, 0, 0⟩, ⟨0, 0, 0, 0⟩⟩, ⟨⟨0, 0, 0, 0⟩, ⟨0, 0, 0, 0⟩⟩, ⟨⟨0, 0, 0, 0⟩, ⟨0, 0, 0, 0⟩⟩⟩, ⟨⟨⟨0, 0, 0, 0⟩, ⟨0, 0, 0, 0⟩⟩, ⟨⟨0, 0, 0, 0⟩, ⟨0, 0, 0, 0⟩⟩, ⟨⟨0, 0, 0, 0⟩, ⟨0, 0, 0, 0⟩⟩, ⟨⟨0, 0, 0, 0⟩, ⟨0, 0, 0, 0⟩⟩, ⟨⟨0, 0, 0, 0⟩, ⟨0, 0, 0, 0⟩⟩, ⟨⟨0, 0, 0, 0⟩, ⟨0, 0, 0, 0⟩⟩, ⟨⟨0, 0, 0, 0⟩, ⟨0, 0, 0, 0⟩⟩, ⟨⟨0, 0, 0, 0⟩, ⟨0, 0, 0, 0⟩⟩⟩, ⟨0, 0, 0, 0, 0, 0, 0, 0⟩, ⟨⟨0, 0, 0, 0⟩, ⟨0, 0, 0, 0⟩⟩, ⟨0, 0, 0, 0⟩, []⟩ nilSl), blk b2 36 (api_Tx.cs a1), lst 76 3 u6 (r4.map escrow_Lock.cs)] [rows 3 z00a (a0.Locks.map escrow_Lock.cs)] (Ls.of (.cons .k0 (.cons .k0 (.cons .k0 (.cons .k0 (.cons .k1 .nil)))))) (Rs.cons Mm.m0 Rs.nil) 6 (.on 0 .ld (.on 2 .pu (.on 1 .ld (.on 3 .go (.on 4 .pu (.on 5 .go .nl)))))) follows_mixed (.thn .body) (by kernel_rfl) ?_
              refine .dld rfl (.n rfl) (V.ld (v := Ag (purse_Book.cs r16.1)) .t1 .k1 (.agg isAgg41 sizeOf41 rfl rfl)) (fun _ h => (h.imp (Ls.of (.cons .k0 (.cons .k0 (.cons .k0 (.cons .k0 (.cons .k1 .nil))))))).ro (Rs.cons Mm.m0 Rs.nil)) rfl rfl ?_
              refine .dpu rfl (.n rfl) (P.fa .g4 fa_45_2 rfl) rfl rfl ?_
              refine .dld rfl (.n rfl) (V.ld (v := Ag (api_Wide.cs (wide_Add a0.Burnt (wide_Of 1)).1)) .t2 .k0 (.agg isAgg30 sizeOf30 rfl rfl)) (fun _ h => (h.imp (Ls.of (.cons .k0 (.cons .k0 (.cons .k0 (.cons .k0 (.cons .k1 .nil))))))).ro (Rs.cons Mm.m0 Rs.nil)) rfl rfl ?_
              refine .dgo rfl (.n rfl) (G.str .t2 .t1 .k4 (.mk (cs' := (escrow_State.cs ⟨a0.Side, a0.Time, r16.1, a0.Vault, a0.Nonces, a0.Held, a0.Burnt, r4⟩ u6)) sizeOf41 rfl rfl rfl rfl)) (.inr fun _ _ _ h => (h.imp (Ls.of (.cons .k1 (.cons .k1 (.cons .k1 (.cons .k1 (.cons .k1 .nil))))))).ro (Rs.cons Mm.m0 Rs.nil)) fun _ _ => ?_
              refine .dpu rfl (.n rfl) (P.fa .g3 fa_45_6 rfl) rfl rfl ?_
              refine .dgo rfl (.n rfl) (G.str .t1 .t0 .k0 (.mk (cs' := (escrow_State.cs ⟨a0.Side, a0.Time, r16.1, a0.Vault, a0.Nonces, a0.Held, (wide_Add a0.Burnt (wide_Of 1)).1, r4⟩ u6)) sizeOf30 rfl rfl rfl rfl)) (.inr fun _ _ _ h => (h.imp (Ls.of (.cons .k1 (.cons .k1 (.cons .k1 (.cons .k1 (.cons .k1 .nil))))))).ro (Rs.cons Mm.m0 Rs.nil)) fun _ _ => ?_
              refine .dnil ?_
              refine .then ?_
              refine .seq ?_
              refine .reg rfl ?_
              refine .opp (P.fa .g1 fa_36_0 rfl) rfl ?_
              refine .op (V.ld (v := N a1.From) .t0 .k4 (.one isAgg3 rfl)) rfl ?_
              refine .opp (P.fa .g3 fa_45_4 rfl) rfl ?_
              obtain ⟨x26, hx27, h⟩ := bnd_eq h
              obtain ⟨i28, hi29, hx27⟩ := at_eq hx27
              have hi29_ : (a1.From).toNat = i28 := by rw [hi29]; rfl
              refine .opp (P.iad (i := i28) (off' := (130 + i28 * 1)) .g1 hi29 .t0 runUnderlying42 sizeOf3 (lt_of_get hx27) rfl) rfl ?_
              refine .op (V.ld (v := N x26) .t0 .k0 (by rcases i28 with _ | _ | _ | _ | _ | _ | _ | _ | _ <;> first | (obtain rfl := Option.some.inj hx27; exact LdV.one isAgg3 rfl) | (cases hx27; done))) rfl ?_
              refine .opp (P.bin .t0 .k .add) rfl ?_
              refine .opp (P.fa .g4 fa_45_4 rfl) rfl ?_
              obtain ⟨x30, hx31, h⟩ := bnd_eq h
              obtain ⟨i32, hi33, hx31⟩ := at_eq hx31
              have hi33_ : (a1.From).toNat = i32 := by rw [hi33]; rfl
              refine .opp (P.iad (i := i32) (off' := (130 + i32 * 1)) .t2 hi33 .t0 runUnderlying42 sizeOf3 (lt_of_get hx31) rfl) rfl ?_
              refine .opg (G.str (cs' := (escrow_State.cs ⟨a0.Side, a0.Time, r16.1, a0.Vault, A8_i64.set a0.Nonces i32 (IntKind.i64.wrap (x26 + 1)), a0.Held, (wide_Add a0.Burnt (wide_Of 1)).1, r4⟩ u6)) .t1 .t0 .k0 (by rcases i32 with _ | _ | _ | _ | _ | _ | _ | _ | _ <;> first | (obtain rfl := Option.some.inj hx31; exact StV.mk sizeOf3 rfl rfl rfl rfl) | (cases hx31; done))) rfl fun _ _ => ?_
              refine .conseq .k0 (q := blk b1 45 (escrow_State.cs ⟨a0.Side, a0.Time, r16.1, a0.Vault, A8_i64.set a0.Nonces (a1.From).toNat (IntKind.i64.wrap (x26 + 1)), a0.Held, (wide_Add a0.Burnt (wide_Of 1)).1, r4⟩ u6)) (fun _ h_ => by rw [hi33_]; exact h_) ?_
              refine .nil ?_
              refine .then ?_
              refine .seq ?_
              refine .reg rfl ?_
              refine .op (V.ld (v := Ag (escrow_State.cs ⟨a0.Side, a0.Time, r16.1, a0.Vault, A8_i64.set a0.Nonces (a1.From).toNat (IntKind.i64.wrap (x26 + 1)), a0.Held, (wide_Add a0.Burnt (wide_Of 1)).1, r4⟩ u6)) .t2 .k0 (.agg isAgg45 sizeOf45 rfl rfl)) rfl ?_
              refine .op (V.ld (v := Ag (api_Tx.cs a1)) .t2 .k4 (.agg isAgg36 sizeOf36 rfl rfl)) rfl ?_
              obtain ⟨r34, hr35, h⟩ := bnd_eq h
              refine .opg (G.call call48 (.cons .t1 (.cons .t0 .nil)) (S_escrow_State_try (⟨a0.Side, a0.Time, r16.1, a0.Vault, A8_i64.set a0.Nonces (a1.From).toNat (IntKind.i64.wrap (x26 + 1)), a0.Held, (wide_Add a0.Burnt (wide_Of 1)).1, r4⟩ : escrow_State) u6 a1 r34 hr35) (.cons .k5 .nil) .nil (fun _ _ => rfl) (fun _ _ => rfl) rfl) rfl fun u36 _ => ?_
              refine .opp (P.mov .t0) rfl ?_
              refine .opp (P.ext (v := Ag (escrow_State.cs r34.1 u36)) .g0 rfl) rfl ?_
              refine .opp (P.ext (v := N r34.2) .t1 rfl) rfl ?_
              refine .opx (X.alc (cs := (escrow_State.cs ⟨0, 0, ⟨⟨⟨0, 0, 0, 0⟩, ⟨0, 0, 0, 0⟩⟩, ⟨⟨0, 0, 0, 0⟩, ⟨0, 0, 0, 0⟩⟩, ⟨⟨0, 0, 0, 0⟩, ⟨0, 0, 0, 0⟩⟩, ⟨⟨0, 0, 0, 0⟩, ⟨0, 0, 0, 0⟩⟩, ⟨⟨0, 0, 0, 0⟩, ⟨0, 0, 0, 0⟩⟩, ⟨⟨0, 0, 0, 0⟩, ⟨0, 0, 0, 0⟩⟩, ⟨⟨0, 0, 0, 0⟩, ⟨0, 0, 0, 0⟩⟩, ⟨⟨0, 0, 0, 0⟩, ⟨0, 0, 0, 0⟩⟩⟩, ⟨⟨⟨0, 0, 0, 0⟩, ⟨0, 0, 0, 0⟩⟩, ⟨⟨0, 0, 0, 0⟩, ⟨0, 0, 0, 0⟩⟩, ⟨⟨0, 0, 0, 0⟩, ⟨0, 0, 0, 0⟩⟩, ⟨⟨0, 0, 0, 0⟩, ⟨0, 0, 0, 0⟩⟩, ⟨⟨0, 0, 0, 0⟩, ⟨0, 0, 0, 0⟩⟩, ⟨⟨0, 0, 0, 0⟩, ⟨0, 0, 0, 0⟩⟩, ⟨⟨0, 0, 0, 0⟩, ⟨0, 0, 0, 0⟩⟩, ⟨⟨0, 0, 0, 0⟩, ⟨0, 0, 0, 0⟩⟩⟩, ⟨0, 0, 0, 0, 0, 0, 0, 0⟩, ⟨⟨0, 0, 0, 0⟩, ⟨0, 0, 0, 0⟩⟩, ⟨0, 0, 0, 0⟩, []⟩ nilSl)) zeroValue45 rfl) rfl fun b37 => ?_
              refine .onel .k1 fun ho38 => ?_
              refine .opg (G.str .t2 .g0 .k0 (.mk (cs' := (escrow_State.cs r34.1 u36)) sizeOf45 rfl (onez_45 _ ho38) rfl rfl)) rfl fun _ _ => ?_
              refine .opp (P.asg .t1) rfl ?_
              refine .nil ?_
              refine .then ?_
              refine .seq ?_
              refine .reg rfl ?_
              refine .op (V.ld (v := Ag (escrow_State.cs r34.1 u36)) .t1 .k0 (.agg isAgg45 sizeOf45 rfl rfl)) rfl ?_
              refine .opp (P.mov .t1) rfl ?_
              refine .onel .k1 fun ho39 => ?_
              refine .opg (G.str .t1 .g1 .k5 (.mk (cs' := (escrow_State.cs r34.1 u36)) sizeOf45 rfl (onez_45 _ ho39) rfl rfl)) rfl fun _ _ => ?_
              refine .opp (P.asg .t0) rfl ?_
              refine .opp (P.asg .k) rfl ?_
              refine .nil ?_
              refine .then ?_
              refine .ret ?_
              cases h
              exact .finw u36 (.r3 rfl (.cell .g2 .k0 (.agg isAgg45 sizeOf45 rfl rfl)) (.tmp .g1) (.tmp .g0)) trivial (Ls.of (.cons .k2 .nil)) .nil
attribute [irreducible] escrow_Apply
noncomputable def slices_Delete_api_Tx_o (a0 : List api_Tx) (a1 : Int) (a2 : Int) : Option ((List api_Tx)) :=
  grd (okS a0.length (some a1) (some a2) (some (a0.length : Int))) <| if (decide (a1 = a2)) = true then (some a0) else (grd (okS a0.length none (some a1) none) <| grd (okS a0.length (some a2) none none) <| some ((a0.take (a1).toNat ++ a0.drop (a2).toNat)))
set_option maxRecDepth 20000 in
set_option maxHeartbeats 1000000 in
theorem S_slices_Delete_api_Tx_o (v00 : Value) (a0 : List api_Tx) (a1 : Int) (a2 : Int) (r : (List api_Tx)) (h : slices_Delete_api_Tx_o a0 a1 a2 = some r) :
    SpecF Tryz.prog 29 [v00, N a1, N a2] [lst 36 25 v00 (a0.map api_Tx.cs)] [] (fun z : Value => True) (fun z => z) (fun z M => lst 36 25 z (r.map api_Tx.cs) ::  M) (fun z M =>  M) := by
  refine .of func29 rfl ntmps29 rfl fun w0 D0 G0 => ?_
  unfold slices_Delete_api_Tx_o at h
  refine .seq ?_
  refine .reg rfl ?_
  refine .op0 (OpP.toV (P.asg .k)) rfl ?_
  refine .nil ?_
  refine .then ?_
  refine .seq ?_
  refine .reg rfl ?_
  refine .opp (P.mov .g0) rfl ?_
  refine .opp (P.mov .g2) rfl ?_
  refine .opp (P.mov .g4) rfl ?_
  refine .opp (P.mov .g3) rfl ?_
  refine .op (V.lnl (n := a0.length) .t0 .k0 map_len runUnderlying22) rfl ?_
  obtain ⟨hb2, h⟩ := grd_eq h
  refine .slnql .k0 fun hq1 => ?_
  rw [List.length_map] at hq1
  refine .op0 (OpP.toV (P.slp (li := (some a1)) (hj := (some a2)) (mk := (some (a0.length : Int))) .t3 (.some .t2) (.some .t1) (.some .t0) hq1 runUnderlying22 sizeOf36 hb2)) rfl ?_
  refine .nil ?_
  refine .then ?_
  refine .seq ?_
  refine .seq ?_
  refine .reg rfl ?_
  refine .opp (P.mov .g1) rfl ?_
  refine .opp (P.mov .g3) rfl ?_
  refine .opp (P.bin .t1 .t0 .eql) rfl ?_
  refine .nil ?_
  refine .then ?_
  refine .cond .t0 (fun c3 => ?_) (fun c3 => ?_)
  · rw [if_pos c3] at h
    refine .seq ?_
    refine .reg rfl ?_
    refine .opp (P.mov .t0) rfl ?_
    refine .opp (P.asg .t0) rfl ?_
    refine .nil ?_
    refine .then ?_
    refine .ret ?_
    refine .thr ?_
    cases h
    exact .finw v00 (.r1 rfl (.tmp .g0)) trivial (Ls.of (.cons .k0 .nil)) .nil
  · rw [if_neg (ne_true_of_eq_false c3)] at h
    refine .skip ?_
    refine .then ?_
    refine .seq ?_
    refine .reg rfl ?_
    refine .opp (P.mov .g0) rfl ?_
    refine .op (V.lnl (n := a0.length) .t0 .k0 map_len runUnderlying22) rfl ?_
    refine .opp (P.asg .t0) rfl ?_
    refine .nil ?_
    refine .then ?_
    refine .seq ?_
    refine .drawl [] [] (Ls.of .nil) Rs.nil 8 (.on 0 .pu (.on 1 .pu (.on 2 .pu (.on 3 .pu (.on 4 .pu (.on 5 .pu (.on 6 .go (.on 7 .go .nl)))))))) follows_mixed (.thn .body) (by kernel_rfl) ?_
    refine .dpu rfl (.n rfl) (P.mov .g1) rfl rfl ?_
    refine .dpu rfl (.n rfl) (P.mov .t3) rfl rfl ?_
    obtain ⟨hb5, h⟩ := grd_eq h
    refine .slnql .k0 fun hq4 => ?_
    rw [List.length_map] at hq4
    refine .dpu rfl (.n rfl) (P.slp (li := none) (hj := (some a1)) (mk := none) .t1 .none (.some .t0) .none hq4 runUnderlying22 sizeOf36 hb5) rfl rfl ?_
    refine .dpu rfl (.n rfl) (P.mov .g2) rfl rfl ?_
    refine .dpu rfl (.n rfl) (P.mov .t4) rfl rfl ?_
    obtain ⟨hb7, h⟩ := grd_eq h
    refine .slnql .k0 fun hq6 => ?_
    rw [List.length_map] at hq6
    refine .dpu rfl (.n rfl) (P.slp (li := (some a2)) (hj := none) (mk := none) .t1 (.some .t0) .none .none hq6 runUnderlying22 sizeOf36 hb7) rfl rfl ?_
    obtain ⟨ni8, hni10⟩ : ∃ k : Nat, a1 = k := ⟨(a1).toNat, by have := hb5.2.1; simp at this; omega⟩
    obtain ⟨nj9, hnj11⟩ : ∃ k : Nat, a2 = k := ⟨(a2).toNat, by have := hb7.1; simp at this; omega⟩
    have hij12 : ni8 < nj9 := by have hx1_ := hb2.2.1; have hx2_ := of_decide_eq_false c3; simp only [Option.getD_some, hni10, hnj11] at hx1_ hx2_; omega
    have hjn13 : nj9 ≤ a0.length := by have hx1_ := hb7.2.1; simp only [Option.getD_some, Option.getD_none, hnj11] at hx1_; omega
    refine .dgo rfl (.n rfl) (G.appd .t1 .t0 .k0 hni10 hnj11 hij12 (by simpa using hjn13) (one_map one_36 _) runUnderlying22 sizeOf36 rfl) (.inr fun _ _ _ h => (h.imp (Ls.of .nil)).ro Rs.nil) fun u14 hp15 => ?_
    refine .drop .k2 ?_
    refine .dgo rfl (.n rfl) (OpV.g (OpP.toV (P.asg .t0)) rfl) (.inr fun _ _ _ h => (h.imp (Ls.of .nil)).ro Rs.nil) fun _ _ => ?_
    refine .dnil ?_
    refine .then ?_
    refine .seq ?_
    refine .reg rfl ?_
    refine .opp (P.mov .g0) rfl ?_
    refine .opp (P.mov .g1) rfl ?_
    refine .opp (P.lnh (n := (ni8 + ((a0.map api_Tx.cs).length - nj9))) .t0 (slp_len hp15) runUnderlying22) rfl ?_
    refine .opp (P.mov .t3) rfl ?_
    have hq18 : SlN v00 (a0.map api_Tx.cs).length := by rw [List.length_map]; exact hq6
    obtain ⟨u16, hu17⟩ := tl_ex (sz := 25) hq18 (ni8 + ((a0.map api_Tx.cs).length - nj9))
    refine .opp (P.sltl (m := (((ni8 + ((a0.map api_Tx.cs).length - nj9)) : Nat) : Int)) (k := (a0.length : Int)) .t2 .t1 .t0 rfl (by simp) hp15 hq18 (by simp only [List.length_map]; omega) runUnderlying22 sizeOf36 hu17) rfl ?_
    refine .opg (G.clr (cs := (api_Tx.cs ⟨0, 0, 0, 0, ⟨0, 0, 0, 0⟩, ⟨0, ⟨#[]⟩, 0, 0, 0, 0, ⟨#[]⟩⟩, ⟨⟨0, 0, 0, 0⟩, 0⟩, ⟨0, 0, 0, 0⟩, ⟨#[]⟩⟩)) (m := (ni8 + ((a0.map api_Tx.cs).length - nj9))) .t0 (by rw [del_len hij12 (by simpa using hjn13)]; exact hu17) .k0 runUnderlying22 zeroValue36 rfl rfl rfl rfl (by rw [del_len hij12 (by simpa using hjn13)]; simp only [List.length_map]; omega)) rfl fun _ _ => ?_
    refine .conseq .k0 (q := lst 36 25 u14 ((a0.take (a1).toNat ++ a0.drop (a2).toNat).map api_Tx.cs)) (fun _ h_ => by simp only [hni10, hnj11, Int.toNat_natCast]; exact lst_del2 hp15 rfl hij12 hjn13 h_) ?_
    refine .nil ?_
    refine .then ?_
    refine .seq ?_
    refine .reg rfl ?_
    refine .opp (P.mov .t0) rfl ?_
    refine .opp (P.asg .t0) rfl ?_
    refine .nil ?_
    refine .then ?_
    refine .ret ?_
    cases h
    exact .finw u14 (.r1 rfl (.tmp .g0)) trivial (Ls.of (.cons .k0 .nil)) .nil
attribute [irreducible] slices_Delete_api_Tx_o
end Go.Sl
